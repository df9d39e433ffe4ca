/- What ballasted_holds leans on, part UB. No condition. -/
import Derived.RangeFuncNested
import Derived.OrdersIn
import Derived.Laws.Cells
import Derived.Laws.CopyRow
import Derived.KernelRfl
import Derived.Test.YthglcafppddedaaGreatDoorPackUA

set_option linter.all false
namespace Go.V
abbrev aW:=Nat->Nat->Option Value
structure BI where
 R:Option Nat
 flat:Bool
 g:Nat
 sz:Nat
 cap:Nat
 n:Nat
 o:Nat
abbrev BE:=Nat->Option BI
def dM:BE:=λ_=>none
def A5(es:Array MapEntry):Value:=.tuple (es.map λe=>.tuple #[e.key,e.val,.int .i64 e.born])
def pS(es:List MapEntry):Prop:=es.Pairwise λe e'=>e.born<e'.born
def jh:Value:=.tuple #[.nilFunc]
def DO:Value:=.tuple #[.nilFunc,.nilFunc]
inductive Rel(I:aW):BE->Value->D->Prop
 |eL {β} (v:Value):Rel I β v .eL
 |j7 {β}:Rel I β (.tuple #[]) .j7
 |tt {β}:Rel I β (.bool true) .tt
 |ff {β}:Rel I β (.bool false) .ff
 |bool {β} (b:Bool):Rel I β (.bool b) (.bool b)
 |int {β} (k:IntKind) (n:Int):Rel I β (.int k n) (.int k n)
 |str {β} (s:ByteArray):Rel I β (.string s) (.str s)
 |agg {β} (cs:Array Value) (ds:List D) (hl:cs.toList.length=ds.length) (h1:∀v,v∈cs.toList->v.oneCell'=true) (h:∀(i:Nat)(v:Value)(d:D),cs.toList[i]?=some v->ds[i]?=some d->Rel I β v d):Rel I β (.agg cs) (.agg ds)
 |b9 {β} (cs:Array Value) (ds:List D) (hl:cs.toList.length=ds.length) (h:∀(i:Nat)(v:Value)(d:D),cs.toList[i]?=some v->ds[i]?=some d->Rel I β v d):Rel I β (.tuple cs) (.b9 ds)
 |cO {β}:Rel I β (.pointer none) .cO
 |loc {β} (i off:Nat) (b:BI) (R:Nat) (hb:β i=some b) (hf:b.flat=true) (hR:b.R=some R):Rel I β (.pointer (some ⟨R,b.o+off,none⟩)) (.loc i off)
 |bH {β} (i off:Nat) (b:BI) (R:Nat) (hb:β i=some b) (hf:b.flat=true) (hR:b.R=some R):Rel I β (.pointer (some ⟨R,b.o+off,none⟩)) (.bH i off)
 |bM {β} (i g r off:Nat) (b:BI) (R:Nat) (hb:β i=some b) (hf:b.flat=false) (hR:b.R=some R) (hg:b.g=g):Rel I β (.pointer (some ⟨R,b.o+(r*b.sz+off),none⟩)) (.bM i g r off)
 |dT {β} (a:Addr) (i g r off:Nat) (b:BI) (hb:β i=some b) (hf:b.flat=false) (hg:g<b.g):Rel I β (.pointer (some a)) (.bM i g r off)
 |ro {β} (B off:Nat) (ds:List D) (u:Nat->Value) (hI:∀j,j<ds.length->I B (off+j)=some (u j)) (h1:∀j,j<ds.length->(u j).oneCell'=true) (h:∀(j:Nat)(d:D),ds[j]?=some d->Rel I dM (u j) d):Rel I β (.pointer (some ⟨B,off,none⟩)) (.ro ds)
 |dj {β} (a:Option Addr) (cap sz:Nat):Rel I β (.slice a 0 cap) (.list sz [])
 |list {β} (B off cap sz:Nat) (rows:List (List D)) (u:Nat->Nat->Value) (ia:rows.length<=cap) (aI:∀(r:Nat)(row:List D),rows[r]?=some row->row.length=sz)
     (hI:∀r j,r<rows.length->j<sz->I B (off+(r*sz+j))=some (u r j)) (h1:∀r j,r<rows.length->j<sz->(u r j).oneCell'=true)
     (h:∀(r:Nat)(row:List D)(j:Nat)(d:D),rows[r]?=some row->row[j]?=some d->Rel I dM (u r j) d):Rel I β (.slice (some ⟨B,off,none⟩) rows.length cap) (.list sz rows)
 |ao {β} (a:Option Addr):Rel I β (.slice a 0 0) .ao
 |sl {β} (a:Option Addr) (c i g off len:Nat) (b:BI) (hb:β i=some b) (hf:b.flat=false) (hg:b.g=g) (hc:off+c=b.cap) (hl:len<=c) (hn:off+len<=b.n)
     (ha:0<c->∃R,b.R=some R/\a=some ⟨R,b.o+off*b.sz,none⟩):Rel I β (.slice a len c) (.sl i g off len)
 |cJ {β} (a:Option Addr) (c i g off len:Nat) (b:BI) (hb:β i=some b) (hf:b.flat=false) (hg:g<b.g):Rel I β (.slice a len c) (.sl i g off len)
 |bR {β} (fn:Fn) (vs us:Array Value) (ds es:List D) (hl:vs.toList.length=ds.length) (hm:us.toList.length=es.length)
     (h:∀(i:Nat)(v:Value)(d:D),vs.toList[i]?=some v->ds[i]?=some d->Rel I β v d) (h':∀(i:Nat)(v:Value)(d:D),us.toList[i]?=some v->es[i]?=some d->Rel I β v d):Rel I β (.func fn vs us) (.bR fn ds es)
 |a7 {β}:Rel I β .nilFunc .a7
 |j8 {β} (l:Nat):Rel I β (.func (.yield l) #[] #[]) (.j8 l)
 |fh {β}:Rel I β (.map none) .fh
 |dI {β}:Rel I β .nilIface .dI
 |cn {β} (i:Nat) (b:BI) (R:Nat) (hb:β i=some b) (hf:b.flat=true) (hR:b.R=some R):Rel I β (.map (some R)) (.cn i)
 |iY {β} (i:Nat) (b:BI) (R:Nat) (hb:β i=some b) (hf:b.flat=true) (hR:b.R=some R):Rel I β (.pointer (some ⟨R,0,none⟩)) (.iY i)
 |gj {β} (a:Option Addr) (c i off sz len:Nat) (b:BI) (R:Nat) (hb:β i=some b) (hf:b.flat=true) (hR:b.R=some R) (hl:len<=c) (ha:0<c->a=some ⟨R,b.o+off,none⟩):Rel I β (.slice a len c) (.gj i off sz len)
 |gp {β} (g off:Nat):Rel I β (.pointer (some ⟨g,off,none⟩)) (.gp g off)
 |dY {β} (R c:Nat) (hI:I R (c+1)=some jh):Rel I β (.map (some R)) (.dY c)
 |nk {β} (R:Nat) (es:List MapEntry) (ks vs:List D) (hI:I R 0=some (A5 es.toArray)) (hb:pS es) (hl:es.length=ks.length) (hm:es.length=vs.length)
     (h:∀(i:Nat)(e:MapEntry)(d:D),es[i]?=some e->ks[i]?=some d->Rel I dM e.key d) (h':∀(i:Nat)(e:MapEntry)(d:D),es[i]?=some e->vs[i]?=some d->Rel I dM e.val d):Rel I β (.map (some R)) (.nk ks vs)
def aW.le(I I':aW):Prop:=∀B off v,I B off=some v->I' B off=some v
theorem aW.le_refl(I:aW):I.le I:=λ_ _ _ h=>h
theorem aW.le_trans{I J K:aW}(h:I.le J)(k:J.le K):I.le K:=λB off v hv=>k B off v (h B off v hv)
def BE.le(β β':BE):Prop:=∀i b,β i=some b->∃b',β' i=some b'/\(b'=b\/(b.flat=false/\b'.flat=false/\b.g<b'.g))
theorem BE.le_refl(β:BE):β.le β:=λ_ b h=>⟨b,h,.inl rfl⟩
theorem BE.le_trans{α β γ:BE}(h:α.le β)(k:β.le γ):α.le γ:=λi b hb=>by
 obtain⟨b',h1,h2⟩:=h i b hb;obtain⟨b'',h3,h4⟩:=k i b' h1;refine⟨b'',h3,?_⟩;rcases h2 with rfl|⟨a1,a2,a3⟩
 .exact h4
 rcases h4 with rfl|⟨c1,c2,c3⟩
 .exact .inr ⟨a1,a2,a3⟩
 exact .inr ⟨a1,c2,Nat.lt_trans a3 c3⟩
theorem nA(β:BE):dM.le β:=λ_ _ h=>by cases h
theorem Rel.mono{I I':aW}{β:BE}{v:Value}{d:D}(h:Rel I β v d):∀{β':BE},I.le I'->β.le β'->Rel I' β' v d:=by
 induction h with
 |eL v=>intros;exact .eL v
 |j7=>intros;exact .j7
 |tt=>intros;exact .tt
 |ff=>intros;exact .ff
 |bool b=>intros;exact .bool b
 |int k n=>intros;exact .int k n
 |str s=>intros;exact .str s
 |agg cs ds hl h1 _ ih=>intro β' hI hβ;exact .agg cs ds hl h1 λi v d hv hd=>ih i v d hv hd hI hβ
 |b9 cs ds hl _ ih=>intro β' hI hβ;exact .b9 cs ds hl λi v d hv hd=>ih i v d hv hd hI hβ
 |cO=>intros;exact .cO
 |loc i off b R hb hf hR=>
  intro β' _ hβ;obtain⟨b',eW,rfl|⟨h1,_⟩⟩:=hβ i b hb
  .exact .loc i off _ R eW hf hR
  rw[hf]at h1;cases h1
 |bH i off b R hb hf hR=>
  intro β' _ hβ;obtain⟨b',eW,rfl|⟨h1,_⟩⟩:=hβ i b hb
  .exact .bH i off _ R eW hf hR
  rw[hf]at h1;cases h1
 |bM i g r off b R hb hf hR hg=>
  intro β' _ hβ;obtain⟨b',eW,rfl|⟨_,h2,h3⟩⟩:=hβ i b hb
  .exact .bM i g r off _ R eW hf hR hg
  exact .dT _ i g r off b' eW h2 (hg▸h3)
 |dT a i g r off b hb hf hg=>
  intro β' _ hβ;obtain⟨b',eW,rfl|⟨_,h2,h3⟩⟩:=hβ i b hb
  .exact .dT a i g r off _ eW hf hg
  exact .dT a i g r off b' eW h2 (Nat.lt_trans hg h3)
 |ro B off ds u hI h1 _ ih=>intro β' Nn _;exact .ro B off ds u (λj hj=>Nn _ _ _ (hI j hj)) h1 λj d hd=>ih j d hd Nn (BE.le_refl _)
 |dj a cap sz=>intros;exact .dj a cap sz
 |list B off cap sz rows u hc aI hI h1 _ ih=>intro β' Nn _;exact .list B off cap sz rows u hc aI (λr j hr hj=>Nn _ _ _ (hI r j hr hj)) h1 λr row j d hr hd=>ih r row j d hr hd Nn (BE.le_refl _)
 |ao a=>intros;exact .ao a
 |sl a c i g off len b hb hf hg hc hl hn ha=>
  intro β' _ hβ;obtain⟨b',eW,rfl|⟨_,h2,h3⟩⟩:=hβ i b hb
  .exact .sl a c i g off len _ eW hf hg hc hl hn ha
  exact .cJ a c i g off len b' eW h2 (hg▸h3)
 |cJ a c i g off len b hb hf hg=>
  intro β' _ hβ;obtain⟨b',eW,rfl|⟨_,h2,h3⟩⟩:=hβ i b hb
  .exact .cJ a c i g off len _ eW hf hg
  exact .cJ a c i g off len b' eW h2 (Nat.lt_trans hg h3)
 |bR fn vs us ds es hl hm _ _ ih G7=>intro β' hI hβ;exact .bR fn vs us ds es hl hm (λi v d hv hd=>ih i v d hv hd hI hβ) λi v d hv hd=>G7 i v d hv hd hI hβ
 |a7=>intros;exact .a7
 |j8 l=>intros;exact .j8 l
 |fh=>intros;exact .fh
 |dI=>intros;exact .dI
 |cn i b R hb hf hR=>
  intro β' _ hβ;obtain⟨b',eW,rfl|⟨h1,_⟩⟩:=hβ i b hb
  .exact .cn i _ R eW hf hR
  rw[hf]at h1;cases h1
 |iY i b R hb hf hR=>
  intro β' _ hβ;obtain⟨b',eW,rfl|⟨h1,_⟩⟩:=hβ i b hb
  .exact .iY i _ R eW hf hR
  rw[hf]at h1;cases h1
 |gj a c i off sz len b R hb hf hR hl ha=>
  intro β' _ hβ;obtain⟨b',eW,rfl|⟨h1,_⟩⟩:=hβ i b hb
  .exact .gj a c i off sz len _ R eW hf hR hl ha
  rw[hf]at h1;cases h1
 |gp g off=>intros;exact .gp g off
 |dY R c h=>intro β' hI _;exact .dY R c (hI _ _ _ h)
 |nk R es ks vs hI hb hl hm _ _ ih G7=>intro β' Nn _;exact .nk R es ks vs (Nn _ _ _ hI) hb hl hm (λi e d he hd=>ih i e d he hd Nn (BE.le_refl _)) λi e d he hd=>G7 i e d he hd Nn (BE.le_refl _)
theorem Rel.lift{I I':aW}{β:BE}{v:Value}{d:D}(h:Rel I dM v d)(hI:I.le I'):Rel I' β v d:=h.mono hI (nA β)
def bn(I:aW)(β:BE)(vs:List Value)(ds:List D):Prop:=vs.length=ds.length/\∀(i:Nat)(v:Value)(d:D),vs[i]?=some v->ds[i]?=some d->Rel I β v d
theorem bn.nil{I:aW}{β:BE}:bn I β [] []:=⟨rfl,λi v d h=>by simp at h⟩
theorem bn.cons{I:aW}{β:BE}{v:Value}{d:D}{vs:List Value}{ds:List D}(h:Rel I β v d)(hs:bn I β vs ds):bn I β (v::vs) (d::ds):=by
 refine⟨by simp[hs.1],λi u e hu he=>?_⟩;cases i with
 |zero=>simp at hu he;subst hu he;exact h
 |succ i=>exact hs.2 i u e (by simpa using hu) (by simpa using he)
theorem bn.cons_inv{I:aW}{β:BE}{d:D}{vs:List Value}{ds:List D}(h:bn I β vs (d::ds)):∃v oz,vs=v::oz/\Rel I β v d/\bn I β oz ds:=by
 cases vs with
 |nil=>exact absurd h.1 (by simp)
 |cons v vs=>
  exact⟨v,vs,rfl,h.2 0 v d rfl rfl,by simpa using h.1,λi u e hu he=>h.2 (i+1) u e (by simpa using hu) (by simpa using he)⟩
theorem bn.cR{I:aW}{β:BE}{vs:List Value}(h:bn I β vs []):vs=[]:=List.eq_nil_of_length_eq_zero (by simpa using h.1)
theorem bn.mono{I I':aW}{β β':BE}{vs:List Value}{ds:List D}(h:bn I β vs ds)(hI:I.le I')(hβ:β.le β'):bn I' β' vs ds:=
 ⟨h.1,λi v d hv hd=>(h.2 i v d hv hd).mono hI hβ⟩
theorem bn.append{I:aW}{β:BE}{vs us:List Value}{ds es:List D}(h:bn I β vs ds)(h':bn I β us es):bn I β (vs++us) (ds++es):=by
 refine⟨by simp[h.1,h'.1],λi v d hv hd=>?_⟩;by_cases hi:i<vs.length
 .rw[List.getElem?_append_left hi]at hv
  rw[List.getElem?_append_left (by rw[<-h.1];exact hi)]at hd;exact h.2 i v d hv hd
 rw[List.getElem?_append_right (by omega)]at hv;rw[List.getElem?_append_right (by have:=h.1;omega)]at hd;exact h'.2 _ v d hv (by rw[h.1];exact hd)
theorem bn.drop{I:aW}{β:BE}{vs:List Value}{ds:List D}(h:bn I β vs ds)(n:Nat):bn I β (vs.drop n) (ds.drop n):=
 ⟨by simp[h.1],λi v d hv hd=>h.2 (n+i) v d (by simpa using hv) (by simpa using hd)⟩
theorem bn.take{I:aW}{β:BE}{vs:List Value}{ds:List D}(h:bn I β vs ds)(n:Nat):bn I β (vs.take n) (ds.take n):=by
 refine⟨by simp[h.1],λi v d hv hd=>?_⟩;rw[List.getElem?_take]at hv hd;split at hv
 .rename_i hi
  rw[if_pos hi]at hd;exact h.2 i v d hv hd
 cases hv
def cT(I:aW)(β:BE)(vs:List Value)(ds:List D):Prop:=bn I β vs ds/\∀v,v∈vs->v.oneCell'=true
theorem cT.mono{I I':aW}{β β':BE}{vs:List Value}{ds:List D}(h:cT I β vs ds)(hI:I.le I')(hβ:β.le β'):cT I' β' vs ds:=⟨h.1.mono hI hβ,h.2⟩
theorem cT.append{I:aW}{β:BE}{vs us:List Value}{ds es:List D}(h:cT I β vs ds)(h':cT I β us es):cT I β (vs++us) (ds++es):=
 ⟨h.1.append h'.1,λv hv=>by rcases List.mem_append.1 hv with hv|hv;exact h.2 v hv;exact h'.2 v hv⟩
theorem cT.drop{I:aW}{β:BE}{vs:List Value}{ds:List D}(h:cT I β vs ds)(n:Nat):cT I β (vs.drop n) (ds.drop n):=⟨h.1.drop n,λv hv=>h.2 v (List.mem_of_mem_drop hv)⟩
theorem cT.take{I:aW}{β:BE}{vs:List Value}{ds:List D}(h:cT I β vs ds)(n:Nat):cT I β (vs.take n) (ds.take n):=⟨h.1.take n,λv hv=>h.2 v (List.mem_of_mem_take hv)⟩
theorem cT.get{I:aW}{β:BE}{vs:List Value}{ds:List D}(h:cT I β vs ds){i:Nat}{d:D}(hd:ds[i]?=some d):∃v,vs[i]?=some v/\Rel I β v d/\v.oneCell'=true:=by
 have hi:i<vs.length:=by rw[h.1.1];exact(List.getElem?_eq_some_iff.1 hd).1
 exact⟨vs[i],List.getElem?_eq_getElem hi,h.1.2 i _ d (List.getElem?_eq_getElem hi) hd,h.2 _ (List.getElem_mem hi)⟩
theorem Rel.gM{I:aW}{β:BE}{v:Value}{ds:List D}(h:Rel I β v (.agg ds)):∃cs:Array Value,v=.agg cs/\cT I β cs.toList ds:=by
 cases h with
 |agg cs _ hl h1 h=>exact⟨cs,rfl,⟨hl,h⟩,h1⟩
theorem Rel.qv{I:aW}{β:BE}{v:Value}{ds:List D}(h:Rel I β v (.b9 ds)):∃cs:Array Value,v=.tuple cs/\bn I β cs.toList ds:=by
 cases h with
 |b9 cs _ hl h=>exact⟨cs,rfl,hl,h⟩
theorem Rel.A6{I:aW}{β:BE}{vs:List Value}{ds:List D}(h:cT I β vs ds):Rel I β (.agg vs.toArray) (.agg ds):=.agg _ _ (by simpa using h.1.1) (by simpa using h.2) (by simpa using h.1.2)
theorem Rel.ji{I:aW}{β:BE}{vs:List Value}{ds:List D}(h:bn I β vs ds):Rel I β (.tuple vs.toArray) (.b9 ds):=.b9 _ _ (by simpa using h.1) (by simpa using h.2)
theorem Rel.y4{I:aW}{β:BE}{v:Value}(h:Rel I β v .tt):v=.bool true:=by cases h;rfl
theorem Rel.y5{I:aW}{β:BE}{v:Value}(h:Rel I β v .ff):v=.bool false:=by cases h;rfl
theorem Rel.nB{I:aW}{β:BE}{v:Value}{b:Bool}(h:Rel I β v (.bool b)):v=.bool b:=by cases h;rfl
theorem Rel.y6{I:aW}{β:BE}{v:Value}{i off:Nat}(h:Rel I β v (.loc i off)):∃R o,v=.pointer (some ⟨R,o,none⟩):=by cases h;exact⟨_,_,rfl⟩
theorem Rel.Js{I:aW}{β:BE}{v:Value}{cs:List D}(h:Rel I β v (.ro cs)):∃a,v=.pointer (some a):=by cases h;exact⟨_,rfl⟩
theorem Rel.Jt{I:aW}{β:BE}{v:Value}{i g r off:Nat}(h:Rel I β v (.bM i g r off)):∃a,v=.pointer (some a):=by cases h<;>exact⟨_,rfl⟩
theorem Rel.Ju{I:aW}{β:BE}{v:Value}{i off:Nat}(h:Rel I β v (.bH i off)):∃a,v=.pointer (some a):=by cases h;exact⟨_,rfl⟩
theorem Rel.oD{I:aW}{β:BE}{v:Value}{fn:Fn}{ds es:List D}(h:Rel I β v (.bR fn ds es)):∃vs us:Array Value,v=.func fn vs us/\bn I β vs.toList ds/\bn I β us.toList es:=by
 cases h with
 |bR _ vs us _ _ hl hm h h'=>exact⟨vs,us,rfl,⟨hl,h⟩,hm,h'⟩
theorem Rel.No{I:aW}{β:BE}{v:Value}{l:Nat}(h:Rel I β v (.j8 l)):v=.func (.yield l) #[] #[]:=by cases h;rfl
def l9:D->Bool
 |.eL|.j7|.b9 _|.agg _=>false
 |_=>true
theorem Rel.one{I:aW}{β:BE}{v:Value}{d:D}(h:Rel I β v d)(hd:l9 d=true):v.oneCell'=true:=by
 cases h<;>first|rfl|cases hd
theorem rR{v:Value}(h:v.oneCell'=true):v.cells=#[v]:=by cases v<;>first|rfl|cases h
theorem Rel.cells{I:aW}{β:BE}{v:Value}{d:D}{ds:List D}(h:Rel I β v d)(hc:cellsOf d=some ds):cT I β v.cells.toList ds:=by
 by_cases hd:l9 d=true
 .have h1:=h.one hd
  have UE:ds=[d]:=by cases d<;>first|(cases hc;rfl)|cases hd
  rw[rR h1,UE];exact⟨bn.cons h .nil,λu hu=>by simp at hu;subst hu;exact h1⟩
 cases d<;>first|(exact absurd rfl hd)|cases hc
 obtain⟨cs,rfl,hr⟩:=h.gM;exact hr
end Go.V
namespace Go.V
open Go.RowKit
def oY:List D->List Value->List Value->Option Bool
 |[],[],[]=>some true
 |.int _ _::z,.int k x::xs,.int k' y::ys=>match same k k' with
  |true=>match oY z xs ys with
   |none=>none
   |some b=>some (x==y&&b)
  |false=>none
 |.ff::z,.bool x::xs,.bool y::ys=>match oY z xs ys with
  |none=>none
  |some b=>some ((x==y)&&b)
 |.str _::z,.string x::xs,.string y::ys=>match oY z xs ys with
  |none=>none
  |some b=>some ((x.toList==y.toList)&&b)
 |_,_,_=>none
def Jv(agg:Bool)(z:Value):Bool:=match agg,z with
 |true,.agg _=>true
 |false,.agg _|false,.tuple _=>false
 |false,_=>true
 |_,_=>false
structure aj(P:Program)(t:TypeId)(ti:TI):Prop where
 desc:P.underlying t=some ti.desc
 agg:ti.agg=(match ti.desc with|.struct _|.array _ _=>true|_=>false)
 info:∃i z,P.info? t=some i/\i.zero=some z/\i.size=ti.size/\i.bytes=ti.bytes/\z.cells.toList.length=ti.zero.length/\
  (∀(j:Nat)(v:Value)(d:D),z.cells.toList[j]?=some v->ti.zero[j]?=some d->ofConst v=some d)/\Jv ti.agg z=true
 u7:ti.zero.length=ti.size
 known:∀fs,ti.desc=.struct fs->∀f∈fs.toList,(P.info? f.type).isSome=true
 Yv:ti.eqs=true->∀(w:World)(xs ys:Array Value)(b:Bool),xs.toList.length=ti.size->oY ti.zero xs.toList ys.toList=some b->(Op.equal t (.agg xs) (.agg ys)).run P w=.ok b w
 Yw:ti.eqs=true->∀(w:World)(em:Bool)(xs:Array Value),xs.toList.length=ti.size->(Instr.checkKey em 10000 t (.agg xs)).run P w=.ok () w
 UF:ti.eqs=true->∃fs,ti.desc=.struct fs
 eqs:ti.eqs=true->∀(w:World)(x y:Operand)(xs ys:Array Value)(b:Bool),xs.toList.length=ti.size->oY ti.zero xs.toList ys.toList=some b->
  (do eqGuard .eql t x y (.agg xs) (.agg ys);binOp .eql t (.agg xs) (.agg ys):Sem Value).run P w=.ok (.bool b) w/\
  (do eqGuard .neq t x y (.agg xs) (.agg ys);binOp .neq t (.agg xs) (.agg ys):Sem Value).run P w=.ok (.bool (!b)) w
def br(P:Program)(T:Nat->Option TI):Prop:=∀t ti,T t=some ti->aj P t ti
structure aB(S:Nat->Prop)(w w':World):Prop where
 os:w'.os=w.os
 tape:w'.tape=w.tape
 output:w'.output=w.output
 size:w.heap.size<=w'.heap.size
 block:∀k,S k->w'.heap[k]?=w.heap[k]?
theorem aB.refl(S:Nat->Prop)(w:World):aB S w w:=⟨rfl,rfl,rfl,Nat.le_refl _,λ_ _=>rfl⟩
theorem aB.trans{S:Nat->Prop}{a b c:World}(h:aB S a b)(k:aB S b c):aB S a c:=
 ⟨k.os.trans h.os,k.tape.trans h.tape,k.output.trans h.output,Nat.le_trans h.size k.size,λi hi=>(k.block i hi).trans (h.block i hi)⟩
theorem aB.mono{S S':Nat->Prop}{w w':World}(h:aB S w w')(hs:∀k,S' k->S k):aB S' w w':=⟨h.os,h.tape,h.output,h.size,λk hk=>h.block k (hs k hk)⟩
theorem aB.alloc(w:World)(o:Obj):aB (·<w.heap.size) w (w.alloc o):=⟨rfl,rfl,rfl,by simp,λk hk=>Below.heap_alloc w o k hk⟩
theorem aB.drew(S:Nat->Prop)(w:World):aB S w w.drew:=⟨rfl,rfl,rfl,Nat.le_refl _,λ_ _=>rfl⟩
theorem aB.Pe{S:Nat->Prop}{w w':World}(h:aB S w w'){B off:Nat}(hB:S B):w'.cell? ⟨B,off,none⟩=w.cell? ⟨B,off,none⟩:=
 World.cell?_of_block (w:=w) (h.block B hB)
def pT(c:Nat)(es:List MapEntry):Prop:=∀e∈es,∃n,e.key=.int .i64 n/\e.val=.int .i64 (pP c n)
open Classical in
noncomputable def cN(w:World)(B off:Nat):Option Value:=
 match w.heap[B]? with
 |some (.map es _)=>if off=0 then some (A5 es)else if pT (off-1) es.toList then some jh else none
 |o=>match w.cell? ⟨B,off,none⟩with
  |some v=>(some v).filter (·.oneCell')
  |none=>match o with
   |some (.cells c _ _)=>if off=c.size then some DO else none
   |_=>none
theorem aB.cell{S:Nat->Prop}{w w':World}(h:aB S w w'){B off:Nat}(hB:S B):cN w' B off=cN w B off:=by
 unfold cN;rw[h.block B hB,h.Pe hB]
theorem va{w:World}{B off:Nat}{v:Value}(h:w.cell? ⟨B,off,none⟩=some v):B<w.heap.size:=World.block_lt_of_cell? (a:=⟨B,off,none⟩) (h:=h)
theorem cy{w:World}{B off:Nat}{v:Value}(h:cN w B off=some v):B<w.heap.size:=by
 unfold cN at h;split at h
 .rename_i hb;exact(Array.getElem?_eq_some_iff.1 hb).1
 split at h
 .rename_i hc;exact va hc
 split at h
 .rename_i hb;exact(Array.getElem?_eq_some_iff.1 hb).1
 cases h
theorem nC{w:World}{B off:Nat}{v:Value}(h:w.cell? ⟨B,off,none⟩=some v)(h1:v.oneCell'=true):cN w B off=some v:=by
 unfold cN;split
 .rename_i hb;simp[World.cell?,hb]at h
 rw[h];simp[Option.filter,h1]
theorem filter_some{o:Option Value}{v:Value}(h:o.filter (·.oneCell')=some v):o=some v/\v.oneCell'=true:=by
 cases o with
 |none=>cases h
 |some u=>
  simp only[Option.filter]at h;split at h
  .cases h;exact⟨rfl,by assumption⟩
  cases h
theorem jX{w:World}{B off:Nat}{v:Value}(h:cN w B off=some v)(h1:v.oneCell'=true):w.cell? ⟨B,off,none⟩=some v:=by
 unfold cN at h;split at h
 .split at h
  .cases h;cases h1
  split at h
  .cases h;cases h1
  cases h
 split at h
 .rename_i hc
  rw[(filter_some h).1]at hc;exact hc
 split at h
 .split at h
  .cases h;cases h1
  cases h
 cases h
theorem iq{w:World}{B:Nat}{c:Array Value}{t:TypeId}{f:Nat×Nat}(h:w.heap[B]?=some (.cells c t f)){off:Nat}{v:Value}(hv:c[off]?=some v)(h1:v.oneCell'=true):cN w B off=some v:=
 nC (by simp[World.cell?,h,hv]) h1
theorem G8{w:World}{B:Nat}{es:Array MapEntry}{k:Nat}(h:w.heap[B]?=some (.map es k)):cN w B 0=some (A5 es):=by
 unfold cN;rw[h];simp
theorem G9{w:World}{B:Nat}{es:Array MapEntry}(h:cN w B 0=some (A5 es)):∃k,w.heap[B]?=some (.map es k):=by
 unfold cN at h;split at h
 .rename_i Np k hb
  rw[if_pos rfl]at h;refine⟨k,?_⟩;rw[hb];have h2:Np=es:=by
   have h:=Option.some.inj h;unfold A5 at h;have h3:=congrArg Array.toList (Value.tuple.inj h);simp only[Array.toList_map]at h3;apply Array.toList_inj.1;have Nq:∀(l l':List MapEntry),(l.map λe=>Value.tuple #[e.key,e.val,.int .i64 e.born])=(l'.map λe=>Value.tuple #[e.key,e.val,.int .i64 e.born])->l=l':=by
    intro l
    induction l with
    |nil=>intro l' h;cases l' with|nil=>rfl|cons x r=>simp at h
    |cons x r ih=>
     intro l' h;cases l' with
     |nil=>simp at h
     |cons y s=>
      simp only[List.map_cons,List.cons.injEq,Value.tuple.injEq]at h;obtain⟨h1,h2⟩:=h;rw[ih s h2];congr 1;cases x;cases y;simp at h1;obtain⟨a1,a2,a3⟩:=h1;subst a1 a2;congr 1;omega
   exact Nq _ _ h3
  rw[h2]
 split at h
 .exact absurd (filter_some h).2 (by simp[A5,Value.oneCell'])
 split at h
 .split at h
  .have h3:=congrArg Array.toList (Value.tuple.inj (Option.some.inj h))
   simp only[Array.toList_map]at h3;cases Nr:es.toList with
   |nil=>rw[Nr]at h3;cases h3
   |cons x r=>rw[Nr,List.map_cons]at h3;cases(List.cons.inj h3).1
  cases h
 cases h
theorem bO{w:World}{B:Nat}{c:Array Value}{t:TypeId}{f:Nat×Nat}(h:w.heap[B]?=some (.cells c t f))(off:Nat):w.cell? ⟨B,off,none⟩=c[off]?:=by
 simp[World.cell?,h]
theorem kc{w:World}{B c:Nat}(h:cN w B (c+1)=some jh):∃es k,w.heap[B]?=some (.map es k)/\pT c es.toList:=by
 unfold cN at h;split at h
 .rename_i es k hb
  rw[if_neg (by omega)]at h;split at h
  .exact⟨es,k,hb,by assumption⟩
  cases h
 split at h
 .exact absurd (filter_some h).2 (by simp[jh,Value.oneCell'])
 split at h
 .split at h
  .cases h
  cases h
 cases h
theorem o8{w:World}{B c k:Nat}{es:Array MapEntry}(h:w.heap[B]?=some (.map es k))(ho:pT c es.toList):cN w B (c+1)=some jh:=by
 unfold cN;rw[h];simp only;rw[if_neg (by omega),if_pos (by simpa using ho)]
def Mem(I:aW)(B:Nat):Prop:=∃c,I B (c+1)=some jh
abbrev dG(I:aW)(w w':World):Prop:=aB (λk=>k<w.heap.size/\¬Mem I k) w w'
theorem aB.toM{I:aW}{w w':World}(h:aB (·<w.heap.size) w w'):dG I w w':=h.mono λ_ hk=>hk.1
structure bc(I:aW)(w:World):Prop where
 cell:∀B off v,I B off=some v->cN w B off=some v
 ex:∀B c,I B (c+1)=some jh->∀off v,I B off=some v->off=c+1
instance{I:aW}{w:World}:CoeFun (bc I w) λ_=>∀B off v,I B off=some v->cN w B off=some v:=⟨bc.cell⟩
theorem bc.of_le{I J:aW}{w:World}(h:bc J w)(hl:I.le J):bc I w:=⟨λB off v hv=>h B off v (hl B off v hv),λB c h1 off v h2=>h.ex B c (hl _ _ _ h1) off v (hl _ _ _ h2)⟩
theorem bc.out{I:aW}{w:World}(h:bc I w){R:Nat}(hR:w.heap.size<=R)(off:Nat):I R off=none:=by
 cases hI:I R off with
 |none=>rfl
 |some v=>have:=cy (h R off v hI);omega
theorem bc.aE{I:aW}{w w':World}(h:bc I w)(k:aB (·<w.heap.size) w w'):bc I w':=⟨λB off v hv=>by
 have:=h B off v hv;rw[k.cell (cy this)];exact this,h.ex⟩
theorem bc.cells{I:aW}{w:World}(h:bc I w){R:Nat}{o:Obj}(hh:w.heap[R]?=some o)(ho:∀es c,o≠.map es c):¬Mem I R:=λ⟨c,hc⟩=>by
 obtain⟨es,q,h4,_⟩:=kc (h R _ _ hc);rw[hh]at h4;exact ho es q (Option.some.inj h4)
def Grow(n:Nat)(I I':aW):Prop:=I.le I'/\∀B off,B<n->I' B off=I B off
theorem Grow.refl(n:Nat)(I:aW):Grow n I I:=⟨I.le_refl,λ_ _ _=>rfl⟩
class aM where
 Jw:Nat->Nat->Option (IntKind×Int)
 ends:Nat->Option Nat:=λ_=>none
def pU[aM]:aW:=λB off=>match aM.Jw B off with|some (k,n)=>some (.int k n)|none=>match aM.ends B with|some m=>if off=m then some DO else none|none=>none
def Enters(P:Program)(f:FuncId):Prop:=∀args w,(callFunc f args).run P w=.ok (.enter f args) w
def Den[aM](P:Program)(f:FuncId)(args:List D)(d:D):Prop:=
 Enters P f/\∀(w:World)(I:aW)(vs:List Value),bc I w->pU.le I->bn I dM vs args->
  Calls P f vs.toArray w λe w'=>∃v I',e=.returned v/\dG I w w'/\Grow w.heap.size I I'/\bc I' w'/\Rel I' dM v d
structure fo(I:aW)(es:List MapEntry)(ks vs:List D):Prop where
 born:pS es
 kl:es.length=ks.length
 vl:es.length=vs.length
 k:∀(i:Nat)(e:MapEntry)(d:D),es[i]?=some e->ks[i]?=some d->Rel I dM e.key d
 v:∀(i:Nat)(e:MapEntry)(d:D),es[i]?=some e->vs[i]?=some d->Rel I dM e.val d
theorem fo.mono{I I':aW}{es:List MapEntry}{ks vs:List D}(h:fo I es ks vs)(hI:I.le I'):fo I' es ks vs:=
 ⟨h.born,h.kl,h.vl,λi e d he hd=>(h.k i e d he hd).lift hI,λi e d he hd=>(h.v i e d he hd).lift hI⟩
theorem vb{l:List Value}{o n j:Nat}{v:Value}(h:((l.drop o).take n)[j]?=some v):l[o+j]?=some v:=by
 rw[List.getElem?_take]at h;split at h
 .rwa[List.getElem?_drop]at h
 cases h
theorem cT.full{I:aW}{β:BE}{l:List Value}{ds:List D}(h:cT I β l ds):cT I β ((l.drop 0).take ds.length) ds:=by
 rw[<-h.1.1,List.drop_zero,List.take_length];exact h
def pV(s:ByteArray)(pos:Nat):Obj:=if pos<s.size+5 then .stringIter s pos else .cells #[.pointer none,.slice none 0 0] (pos-(s.size+5)) (0,0)
theorem ma(s:ByteArray)(pos:Nat):pV s pos=.stringIter s pos\/∃c t,pV s pos=.cells c t (0,0):=by
 unfold pV;split
 .exact .inl rfl
 exact .inr ⟨_,_,rfl⟩
def lz(w:World)(b:BI)(s:ByteArray)(pos:Nat):Prop:=
 b.flat=false/\b.sz=1/\b.o=0/\b.n=s.size/\s.size<=b.cap/\∃e,e<1099511627776/\pos=dR s.size b.g e/\
  match b.R with
  |none=>b.cap=0
  |some R=>∃c,w.heap[R]?=some (.cells c e (0,0))/\c.size=b.cap/\∀(j:Nat)(x:UInt8),s.data.toList[j]?=some x->c[j]?=some (.int .u8 x.toNat)
theorem lz.mono{w w':World}{b:BI}{s:ByteArray}{pos:Nat}(h:lz w b s pos)(hw:∀R,b.R=some R->w'.heap[R]?=w.heap[R]?):lz w' b s pos:=by
 obtain⟨h1,h2,h3,h4,h5,e,h6,h7,h⟩:=h;refine⟨h1,h2,h3,h4,h5,e,h6,h7,?_⟩;cases hR:b.R with
 |none=>rw[hR]at h;exact h
 |some R=>rw[hR]at h;obtain⟨c,hh,hc⟩:=h;exact⟨c,(hw R hR).trans hh,hc⟩
theorem lz.cells{w:World}{b:BI}{s:ByteArray}{pos R:Nat}(h:lz w b s pos)(hR:b.R=some R):∃c t,w.heap[R]?=some (.cells c t (0,0)):=by
 obtain⟨_,_,_,_,_,e,_,_,h⟩:=h;rw[hR]at h;obtain⟨c,hh,_⟩:=h;exact⟨c,e,hh⟩
theorem lz.far{w:World}{b:BI}{s:ByteArray}{pos:Nat}(h:lz w b s pos):s.size+5<=pos:=by
 obtain⟨_,_,_,_,_,e,_,rfl,_⟩:=h;unfold dR;omega
def bA(I:aW)(β:BE)(w:World)(b:BI):af->Prop
 |.flat _ cells=>b.flat=true/\∃R c t,b.R=some R/\w.heap[R]?=some (.cells c t (0,0))/\cT I β ((c.toList.drop b.o).take cells.length) cells
 |.rows _ g sz rs=>b.flat=false/\b.g=g/\b.sz=sz/\b.n=rs.length/\(∀(r:Nat)(row:List D),rs[r]?=some row->row.length=sz)/\rs.length<=b.cap/\
     (match b.R with
      |none=>b.cap=0
      |some R=>∃c t,w.heap[R]?=some (.cells c t (0,0))/\c.size=b.o+b.cap*sz/\
         ∀(r:Nat)(row:List D)(j:Nat)(d:D),rs[r]?=some row->row[j]?=some d->∃v,c[b.o+(r*sz+j)]?=some v/\Rel I dM v d/\v.oneCell'=true)
 |.map _ ks vs=>b.flat=true/\∃R es clock,b.R=some R/\w.heap[R]?=some (.map es clock)/\(∀e∈es.toList,e.born<clock)/\fo I es.toList ks vs
 |.aA _ s pos=>(b.flat=true/\b.o=0/\∃R,b.R=some R/\w.heap[R]?=some (pV s pos))\/lz w b s pos
 |.aJ _ i ks vs seen=>b.flat=true/\∃R bm Rm es clock since c0 sn,b.R=some R/\β i=some bm/\bm.flat=true/\bm.R=some Rm/\w.heap[R]?=some (.mapIter (some Rm) since sn c0)/\w.heap[Rm]?=some (.map es clock)/\
     (∀e∈es.toList,e.born<since)/\since<=c0/\since<=clock/\(∀q∈seen.head?,c0=clock)/\fo I es.toList ks vs/\sn.toList=(seen.reverse.map λq=>((es[q]?).map (·.born)).getD 0)/\∀q∈seen,q<es.size
def Jx(β:BE)(b:BI)(box:af)(R:Nat):Prop:=
 b.R=some R\/match box with
  |.aJ _ i _ _ _=>∃bm,β i=some bm/\bm.R=some R
  |_=>False
theorem bA.mono{I I':aW}{β β':BE}{w w':World}{b:BI}{box:af}(h:bA I β w b box)(hI:I.le I')(hβ:β.le β')
    (hw:∀R,Jx β b box R->w'.heap[R]?=w.heap[R]?):bA I' β' w' b box:=by
  have Ha:∀R,b.R=some R->w'.heap[R]?=w.heap[R]?:=λR h=>hw R (.inl h);cases box with
  |flat fz cells=>
   obtain⟨hf,R,c,t,hR,hh,hr⟩:=h;exact⟨hf,R,c,t,hR,(Ha R hR).trans hh,hr.mono hI hβ⟩
  |rows fz g sz rs=>
   obtain⟨hf,hg,hs,hn,aI,ia,h⟩:=h;refine⟨hf,hg,hs,hn,aI,ia,?_⟩;cases hR:b.R with
   |none=>rw[hR]at h;exact h
   |some R=>
    rw[hR]at h;obtain⟨c,t,hh,hc,hd⟩:=h;exact⟨c,t,(Ha R hR).trans hh,hc,λr row j d h1 h2=>let⟨v,h3,h4,h5⟩:=hd r row j d h1 h2;⟨v,h3,h4.lift hI,h5⟩⟩
  |map fz ks vs=>
   obtain⟨hf,R,es,clock,hR,hh,hc,hm⟩:=h;exact⟨hf,R,es,clock,hR,(Ha R hR).trans hh,hc,hm.mono hI⟩
  |aA fz s pos=>
   rcases h with⟨hf,ho,R,hR,hh⟩|h
   .exact .inl ⟨hf,ho,R,hR,(Ha R hR).trans hh⟩
   exact .inr (h.mono Ha)
  |aJ fz i ks vs seen=>
   obtain⟨hf,R,bm,Rm,es,clock,since,c0,sn,hR,oE,Pf,A7,h1,h2,h3,h4,Qt,h5,h6,h7,h8⟩:=h;have Ns:β' i=some bm:=by
    obtain⟨b',eW,rfl|⟨h,_⟩⟩:=hβ i bm oE
    .exact eW
    rw[Pf]at h;cases h
   exact⟨hf,R,bm,Rm,es,clock,since,c0,sn,hR,Ns,Pf,A7,(hw R (.inl hR)).trans h1,(hw Rm (.inr ⟨bm,oE,A7⟩)).trans h2,h3,h4,Qt,h5,h6.mono hI,h7,h8⟩
def UG:Obj->Bool
 |.cells ..=>true
 |.map ..=>true
 |.stringIter ..=>true
 |.mapIter ..=>true
 |_=>false
theorem bA.lt{I:aW}{β:BE}{w:World}{b:BI}{box:af}(h:bA I β w b box){R:Nat}(hR:b.R=some R):∃o,UG o=true/\w.heap[R]?=some o:=by
 cases box with
 |flat fz cells=>obtain⟨_,R',c,t,dh,hh,_⟩:=h;rw[hR]at dh;cases dh;exact⟨_,rfl,hh⟩
 |rows fz g sz rs=>
  obtain⟨_,_,_,_,_,_,h⟩:=h;rw[hR]at h;obtain⟨c,t,hh,_⟩:=h;exact⟨_,rfl,hh⟩
 |map fz ks vs=>obtain⟨_,R',es,t,dh,hh,_⟩:=h;rw[hR]at dh;cases dh;exact⟨_,rfl,hh⟩
 |aA fz s pos=>
  rcases h with⟨_,_,R',dh,hh⟩|h
  .rw[hR]at dh;cases dh;exact⟨_,(by rcases ma s pos with e|⟨c,t,e⟩<;>rw[e]<;>rfl),hh⟩
  obtain⟨c,t,hh⟩:=h.cells hR;exact⟨_,rfl,hh⟩
 |aJ fz i ks vs seen=>obtain⟨_,R',bm,Rm,es,clock,since,c0,sn,dh,oE,Pf,A7,h1,_⟩:=h;rw[hR]at dh;cases dh;exact⟨_,rfl,h1⟩
theorem bo{w:World}{R:Nat}{o:Obj}(h:w.heap[R]?=some o):R<w.heap.size:=(Array.getElem?_eq_some_iff.1 h).1
theorem bA.slt{I:aW}{β:BE}{w:World}{b:BI}{box:af}(h:bA I β w b box){R:Nat}(hR:Jx β b box R):R<w.heap.size:=by
 rcases hR with hR|hR
 .obtain⟨_,_,hh⟩:=h.lt hR
  exact bo hh
 cases box with
 |aJ fz i ks vs seen=>
  obtain⟨_,R',bm,Rm,es,clock,since,c0,sn,_,oE,_,A7,_,h2,_⟩:=h;obtain⟨bm',h3,h4⟩:=hR;rw[oE]at h3;cases h3;rw[A7]at h4;cases h4;exact bo h2
 |_=>exact hR.elim
theorem rS{i:Nat}:∀{bs:List af}{j:Nat}{fz:Bool}{i':Nat}{ks vs:List D}{seen:List Nat},kS i bs=true->bs[j]?=some (.aJ fz i' ks vs seen)->i'≠i
 |[],_,_,_,_,_,_,_,h=>by simp at h
 |b::r,0,fz,i',ks,vs,seen,hn,h=>by
  simp at h;subst h;simp only[kS]at hn;intro e;subst e;simp at hn
 |b::r,j+1,fz,i',ks,vs,seen,hn,h=>by
  refine rS (bs:=r) (j:=j) ?_ (by simpa using h);cases b with
  |aJ _ k _ _ _=>
   simp only[kS]at hn;split at hn
   .cases hn
   exact hn
  |_=>exact hn
structure Cx where
 dP:Nat->Prop
 Fr:World->Prop
 J:eG->(Nat->Prop)->World->Prop
 I0:aW
 G:Value->D->Prop
 lo:Nat
 b0:BE
 sV:Deferred->Prop
structure Cx.Ok[aM](cx:Cx):Prop where
 gl:pU.le cx.I0
 fr:∀w w',cx.Fr w->aB (λk=>cx.dP k/\¬Mem cx.I0 k) w w'->cx.Fr w'
 j:∀y S w w',cx.J y S w->aB S w w'->cx.J y S w'
 g:∀v d,cx.G v d->en cx.lo d=true
 b:∀i b,cx.b0 i=some b->i<cx.lo
 d:∀d,cx.sV d->∀R,d.target≠.collected R
structure bf(cx:Cx)(V:Nat->Prop)(U:St)(β:BE)(I:aW)(S:Nat->Prop)(N:Nat)(a:Act)(w:World):Prop where
 tm:∀t d,V t->look U.tmps t=some d->∃v,a.tmps[t]?=some v/\Rel I β v d
 sz:a.tmps.size=N
 agree:bc I w
 bx:∀i b,β i=some b->∃box,U.boxes[i]?=some box/\bA I β w b box
 apart:∀i j b c R,β i=some b->β j=some c->b.R=some R->c.R=some R->i=j
 own:∀i b R,β i=some b->b.R=some R->¬cx.dP R/\¬S R
 clear:∀i b R box,β i=some b->b.R=some R->U.boxes[i]?=some box->box.fz=false->∀off,I R off=none
 fr:cx.Fr w
 n0:∀k,cx.dP k->k<w.heap.size
 I0:cx.I0.le I
 fV:∀B off,cx.dP B->I B off=cx.I0 B off
 j:cx.J U.y S w
 sb:∀B,S B->B<w.heap.size
 sI:∀B off v,I B off=some v->¬cx.dP B->¬S B
 nt:∀B,(S B\/∃i b,β i=some b/\b.R=some B)->¬Mem I B
 gh:∀v d,cx.G v d->Rel I β v d
 qw:cx.b0.le β
 nd:a.defers.Pairwise λd d'=>d.target≠d'.target
 ep:∀d,cx.sV d->d∈a.defers
 dn:∀d,cx.sV d->∀R,d.target≠.collected R
 marks:∀d∈a.defers,¬cx.sV d->∃R,d={target:=.collected R,args:=#[]}/\w.heap[R]?=some (.deferred (some []))/\¬cx.dP R/\¬S R
theorem bf.Jc{cx:Cx}{V:Nat->Prop}{U:St}{β:BE}{I:aW}{S:Nat->Prop}{N:Nat}{a:Act}{w:World}(h:bf cx V U β I S N a w):∀i b,β i=some b->∀R,b.R=some R->¬Mem I R:=λi b hb R hR=>h.nt R (.inr ⟨i,b,hb,hR⟩)
theorem bf.ev{cx:Cx}{V:Nat->Prop}{U:St}{β:BE}{I:aW}{S:Nat->Prop}{N:Nat}{a:Act}{w:World}(h:bf cx V U β I S N a w){x:Operand}{d:D}
    (hx:∀t,x=.tmp t->V t)(hd:U.ev x=some d):Rel I β (a.eval x) d:=by
  cases x with
  |tmp t=>
   obtain⟨v,hv,hr⟩:=h.tm t d (hx t rfl) hd;have:a.eval (.tmp t)=v:=by simp[Act.eval,Array.getD_eq_getD_getElem?,hv]
   rw[this];exact hr
  |const v=>
   simp only[St.ev]at hd;simp only[Act.eval];revert hd;unfold ofConst;split<;>intro hd<;>cases hd
   .exact .tt
   .exact .ff
   .exact .int _ _
   .exact .str _
   .exact .cO
   .exact .ao none
   .exact .a7
   .exact .fh
   exact .dI
  |global g=>
   simp only[St.ev,Option.some.injEq]at hd;subst hd;exact .gp g 0
  |func f=>
   simp only[St.ev,Option.some.injEq]at hd;subst hd;exact .bR _ _ _ _ _ rfl rfl (λi v d h=>by simp at h) (λi v d h=>by simp at h)
theorem bf.jv{cx:Cx}{V:Nat->Prop}{U:St}{β:BE}{I:aW}{S:Nat->Prop}{N:Nat}{a:Act}{w:World}(h:bf cx V U β I S N a w):
    ∀{xs:List Operand}{ds:List D},(∀x t,x∈xs->x=.tmp t->V t)->U.jv xs=some ds->bn I β (xs.map a.eval) ds
  |[],ds,_,hd=>by simp[St.jv]at hd;subst hd;exact .nil
  |x::r,ds,hx,hd=>by
   simp only[St.jv]at hd;cases h1:U.ev x with
   |none=>rw[h1]at hd;cases hd
   |some d=>
    rw[h1]at hd;cases h2:U.jv r with
    |none=>rw[h2]at hd;cases hd
    |some l=>
     rw[h2]at hd;cases hd;exact bn.cons (h.ev (λt e=>hx x t (by simp) e) h1) (h.jv (λy t hy e=>hx y t (by simp[hy]) e) h2)
theorem bf.put{cx:Cx}{V:Nat->Prop}{U:St}{β:BE}{I:aW}{S:Nat->Prop}{N:Nat}{a:Act}{w:World}(h:bf cx V U β I S N a w){dst:Option Nat}{v:Value}{d:D}
    (hd:∀t,dst=some t->t<N)(hr:dst.isSome=true->Rel I β v d):bf cx V (U.put dst d) β I S N (a.put dst v) w:=by
  cases dst with
  |none=>exact h
  |some t=>
   have htN:=hd t rfl;refine{h with tm:=?_,sz:=by simp[Act.put,h.sz],bx:=h.bx,clear:=h.clear,j:=h.j,marks:=h.marks,ep:=h.ep,dn:=h.dn,nd:=h.nd};intro u e hu he;simp only[St.put,look]at he;by_cases ZB:t=u
   .subst ZB
    simp at he;subst he;exact⟨v,by simp[Act.put,h.sz,htN],hr rfl⟩
   have hb:Nat.beq t u=false:=Bool.eq_false_iff.2 λhh=>ZB (Nat.eq_of_beq_eq_true hh);rw[hb]at he;obtain⟨x,hx,e8⟩:=h.tm u e hu he;exact⟨x,by simp only[Act.put];rw[Array.getElem?_setIfInBounds_ne ZB];exact hx,e8⟩
end Go.V
namespace Go.V
open Go.RowKit
inductive o9(dP S:Nat->Prop)(I0 I:aW)(w:World):List Value->List D->(Nat->Prop)->Prop
 |plain (vs:List Value) (x:List D) (h:bn I dM vs x) (hs:∀B off v,I B off=some v->(dP B/\I0 B off=some v)\/(¬dP B/\¬S B)):o9 dP S I0 I w vs x λ_=>False
 |DQ (R:Nat) (es:Array MapEntry) (clock:Nat) (ks us:List D) (hR:w.heap[R]?=some (.map es clock)) (hc:∀e∈es.toList,e.born<clock) (hm:fo I es.toList ks us) (hk:bT ks=true) (hu:bT us=true) (ho:¬dP R) (hS:¬S R) (uv:∀off,I0 R off=none):
     o9 dP S I0 I w [.map (some R)] [.pO ks us] λB=>B=R
def bB(P:Program)(cx:Cx):Prop:=
 ∀(l:Nat)(x:List D)(r:List (List D))(S:Nat->Prop)(w:World)(I:aW)(vs:List Value)(G:Nat->Prop),cx.J (.rem l (x::r)) S w->cx.Fr w->bc cx.I0 w->(∀k,cx.dP k->k<w.heap.size)->(∀B,S B->B<w.heap.size)->
  bc I w->o9 cx.dP S cx.I0 I w vs x G->
  ∃f tmps assign body,(Instr.yield l vs.toArray).run P w=.ok (.round l f tmps assign body) w/\
   RoundIn Fence.wide 0 P l f tmps assign body w λe w'=>∃b S',e=.returned (.bool b)/\cx.J (match b with|true=>.rem l r|false=>.gk) S' w'/\aB (λk=>k<w.heap.size/\¬(cx.dP k/\Mem cx.I0 k)/\¬S k/\¬G k) w w'/\
    (∀B,S' B->S B\/w.heap.size<=B\/G B)/\(∀B,S' B->B<w'.heap.size)/\bc cx.I0 w'/\cx.Fr w'
def Hp(cx:Cx)(bs:List af)(y:eG)(β:BE)(I:aW)(S:Nat->Prop)(w:World):Prop:=
 bf cx (λ_=>True) ⟨[],bs,y⟩ β I S 0 {tmps:=#[],defers:=[]} w/\∀i,i<bs.length->(β i).isSome=true
section
variable[aM]
def lA(P:Program)(k:FuncId)(args:List D)(bs:List af)(y:eG)(Q:D->List af->eG->Prop):Prop:=
 Enters P k/\∀(cx:Cx)(w:World)(β:BE)(I:aW)(S:Nat->Prop)(vs:List Value),cx.Ok->bB P cx->cx.lo<=bs.length->Hp cx bs y β I S w->bn I β vs args->
  Calls P k vs.toArray w λe w'=>∃v d bu y' β' I' S',e=.returned v/\Q d bu y'/\Hp cx bu y' β' I' S' w'/\Rel I' β' v d
def Qu(P:Program)(k:FuncId)(args:List D)(b:af):Prop:=
 Enters P k/\∀(w:World)(I:aW)(vs:List Value),bc I w->pU.le I->bn I dM vs args->
  Calls P k vs.toArray w λe w'=>∃v bi I',e=.returned v/\dG I w w'/\Grow w.heap.size I I'/\bc I' w'/\(∀R,bi.R=some R->w.heap.size<=R/\∀off,I' R off=none)/\(∀(I2:aW)(β:BE),(jg b=true\/I'.le I2)->bA I2 β w' bi b)/\(∀(I2:aW)(β:BE)(i:Nat),β i=some bi->Rel I2 β v (xf b i))
def jR(P:Program)(k:FuncId)(caps:List D)(xs:List (List D)):Prop:=
 Enters P k/\∀(w:World)(I:aW)(vs:List Value)(l:Nat)(J:eG->(Nat->Prop)->World->Prop)(S:Nat->Prop),bc I w->pU.le I->bn I dM vs caps->
  (∀y S w w',J y S w->aB S w w'->J y S w')->bB P ⟨(·<w.heap.size),λ_=>True,J,I,λ_ _=>False,0,dM,λ_=>False⟩->J (.rem l xs) S w->(∀B,S B->B<w.heap.size)->(∀B,S B->¬Mem I B)->
  Calls P k (Value.func (.yield l) #[] #[]::vs).toArray w λe w'=>∃v y S',e=.returned v/\J y S' w'/\((∃l',y=.rem l' [])\/y=.gk)/\(∀B,S' B->B<w'.heap.size)/\bc I w'
def Jy(P:Program)(k:FuncId)(caps:List D)(Ja:List af)(xs:List (List D)):Prop:=
 ∀l,lA P k (.j8 l::caps) Ja (.rem l xs) λ_ _ y=>(∃l',y=.rem l' [])\/y=.gk
structure er where
 sh:Nat->Bool
 nw:Nat->Bool
 mp:Option Nat:=none
def Pg(o:Option Value)(e:Ending):Prop:=match o with
 |none=>∃v,e=.returned v
 |some v=>e=.panicked [{v,recovered:=false}]
def Hb(P:Program)(k:FuncId)(args:List D)(o:Option Value):Prop:=
 Enters P k/\∀(w:World)(I:aW)(vs:List Value),bc I w->pU.le I->bn I dM vs args->
  Calls P k vs.toArray w λe w'=>dG I w w'/\Pg o e/\bc I w'
abbrev CD(P:Program)(sh:er):xa:=⟨Den P,lA P,sh.sh,Qu P,sh.nw,aM.Jw,Hb P,sh.mp⟩
abbrev nc(P:Program)(sh:Nat->Bool):MT:=⟨jR P,Jy P,sh,λk=>sh (k+4096)⟩
end
end Go.V
namespace Go.V
open Go.RowKit
theorem cU(B off n:Nat):(⟨B,off,none⟩:Addr).add n=⟨B,off+n,none⟩:=by
 unfold Addr.add;split
 .rename_i h;subst h;rfl
 rfl
section
variable{P:Program}{T:Nat->Option TI}{t:TypeId}{ti:TI}
theorem aj.oF(h:aj P t ti)(w:World):(isAgg t).run P w=.ok ti.agg w:=by
 unfold isAgg;simp only[Sem.run_bind,run_underlying h.desc,Result.andThen_ok];rw[h.agg];cases ti.desc<;>rfl
theorem aj.run_typeInfo(h:aj P t ti)(w:World):∃i,(typeInfo t).run P w=.ok i w/\i.size=ti.size/\i.bytes=ti.bytes/\P.info? t=some i/\
    ∃z,i.zero=some z/\z.cells.toList.length=ti.zero.length/\∀(j:Nat)(v:Value)(d:D),z.cells.toList[j]?=some v->ti.zero[j]?=some d->ofConst v=some d:=by
  obtain⟨i,z,hi,hz,hs,hb,hl,hc,_⟩:=h.info;exact⟨i,by simp[typeInfo,hi],hs,hb,hi,z,hz,hl,hc⟩
theorem aj.run_sizeOf(h:aj P t ti)(w:World):(sizeOf t).run P w=.ok ti.size w:=by
 obtain⟨i,hi,hs,_⟩:=h.run_typeInfo w;simp[sizeOf,hi,hs]
theorem k5{I:aW}{β:BE}{v:Value}{d:D}(h:ofConst v=some d):Rel I β v d/\v.oneCell'=true:=by
 revert h;unfold ofConst;split<;>intro h<;>cases h
 .exact⟨.tt,rfl⟩
 .exact⟨.ff,rfl⟩
 .exact⟨.int _ _,rfl⟩
 .exact⟨.str _,rfl⟩
 .exact⟨.cO,rfl⟩
 .exact⟨.ao none,rfl⟩
 .exact⟨.a7,rfl⟩
 .exact⟨.fh,rfl⟩
 exact⟨.dI,rfl⟩
theorem aj.nD(h:aj P t ti)(w:World)(I:aW)(β:BE):∃z,(zeroValue t).run P w=.ok z w/\cT I β z.cells.toList ti.zero:=by
 obtain⟨i,hi,hs,hb,hp,z,hz,hl,hc⟩:=h.run_typeInfo w;refine⟨z,by simp[zeroValue,hi,hz],⟨hl,λj v d hv hd=>(k5 (hc j v d hv hd)).1⟩,λv hv=>?_⟩;obtain⟨j,hj,rfl⟩:=List.getElem_of_mem hv;have ZC:j<ti.zero.length:=by omega
 exact(k5 (I:=I) (β:=β) (hc j _ _ (List.getElem?_eq_getElem hj) (List.getElem?_eq_getElem ZC))).2
theorem aj.Hc(h:aj P t ti)(w:World)(I:aW)(β:BE):∃z,(zeroValue t).run P w=.ok z w/\cT I β z.cells.toList ti.zero/\∀(j:Nat)(v:Value)(d:D),z.cells.toList[j]?=some v->ti.zero[j]?=some d->ofConst v=some d:=by
 obtain⟨i,hi,hs,hb,hp,z,hz,hl,hc⟩:=h.run_typeInfo w;obtain⟨z',h1,h2⟩:=h.nD w I β;have h3:(zeroValue t).run P w=.ok z w:=by simp[zeroValue,hi,hz]
 rw[h3]at h1;cases h1;exact⟨_,h3,h2,hc⟩
theorem aj.Hd(h:aj P t ti)(w:World)(I:aW)(β:BE):∃z,(zeroValue t).run P w=.ok z w/\Rel I β z (kT ti):=by
 obtain⟨i,z,hi,hz,hs,hb,hl,hc,MV⟩:=h.info;refine⟨z,by simp[zeroValue,typeInfo,hi,hz],?_⟩;have aq:cT I β z.cells.toList ti.zero:=by
  refine⟨⟨hl,λj v d hv hd=>(k5 (hc j v d hv hd)).1⟩,λv hv=>?_⟩;obtain⟨j,hj,rfl⟩:=List.getElem_of_mem hv;have ZC:j<ti.zero.length:=by omega
  exact(k5 (I:=I) (β:=β) (hc j _ _ (List.getElem?_eq_getElem hj) (List.getElem?_eq_getElem ZC))).2
 unfold kT;cases ha:ti.agg with
 |true=>
  rw[ha]at MV;cases z with
  |agg cs=>
   have:=Rel.A6 aq;simpa[Value.cells]using this
  |_=>exact Bool.noConfusion MV
 |false=>
  simp only;cases TV:ti.zero with
  |nil=>exact .eL _
  |cons d r=>
   rw[ha]at MV;have h1:z.oneCell'=true:=by cases z<;>first|rfl|exact Bool.noConfusion MV
   rw[rR h1,TV]at aq;exact aq.1.2 0 z d rfl rfl
theorem mH(h:aj P t ti)(ha:ti.agg=false){w:World}{a:Addr}{v:Value}(hc:w.cell? a=some v):(loadVar t a).run P w=.ok v w:=by
 simp[loadVar,h.oF,ha,hc]
theorem tS(h:aj P t ti)(ha:ti.agg=true){w:World}{B off:Nat}{cs:List Value}(hl:cs.length=ti.size)
    (hc:∀(j:Nat)(v:Value),cs[j]?=some v->w.cell? ⟨B,off+j,none⟩=some v):(loadVar t ⟨B,off,none⟩).run P w=.ok (.agg cs.toArray) w:=by
  have:=run_loadCells_list (P:=P) w ⟨B,off,none⟩ cs (λj v hv=>by rw[cU];exact hc j v hv);rw[hl]at this;simp[loadVar,h.oF,ha,h.run_sizeOf,this]
theorem sW(h:aj P t ti){cx:Cx}{V:Nat->Prop}{U:St}{β:BE}{I:aW}{S:Nat->Prop}{N:Nat}{a:Act}{w:World}(hs:bf cx V U β I S N a w)
    {pv:Value}{p:D}(hp:Rel I β pv p){k:bE->Prop}(hk:fy ti U.boxes p k):
    ∃v d,(Instr.loadAt t pv).run P w=.ok v w/\k (.val d)/\Rel I β v d:=by
  have agg:∀(B off:Nat)(vs:List Value)(ds:List D),ti.agg=true->(∀(j:Nat)(v:Value),vs[j]?=some v->w.cell? ⟨B,off+j,none⟩=some v)->cT I β vs ds->ds.length=ti.size->
      ∃v,(Instr.loadAt t (.pointer (some ⟨B,off,none⟩))).run P w=.ok v w/\Rel I β v (.agg ds):=by
    intro B off vs ds ha hc hr hl;exact⟨_,by simp only[Instr.loadAt,Instr.sureAddr];simpa using tS h ha (hr.1.1.trans hl) hc,Rel.A6 hr⟩
  have one:∀(B off:Nat)(v:Value),ti.agg=false->w.cell? ⟨B,off,none⟩=some v->(Instr.loadAt t (.pointer (some ⟨B,off,none⟩))).run P w=.ok v w:=by
   intro B off v ha hc;simp only[Instr.loadAt,Instr.sureAddr];simpa using mH h ha hc
  have sub:∀(off n:Nat)(vs:List Value)(ds:List D),cT I β vs ds->∀e,cQ ds off n=some e->e=.agg ((ds.drop off).take n)/\((ds.drop off).take n).length=n/\cT I β ((vs.drop off).take n) ((ds.drop off).take n):=by
   intro off n vs ds hr e he;unfold cQ at he;split at he
   .rename_i hf
    cases he;have hle:off+n<=ds.length:=Nat.le_of_ble_eq_true hf;exact⟨rfl,by simp;omega,(hr.drop off).take n⟩
   cases he
  have slice:∀(off n:Nat)(vs:List Value)(j:Nat)(v:Value),((vs.drop off).take n)[j]?=some v->vs[off+j]?=some v:=by
   intro off n vs j v hv;rw[List.getElem?_take]at hv;split at hv
   .simpa using hv
   cases hv
  cases p with
  |loc i off=>
   cases hp with
   |loc _ _ b R hb hf hR=>
   obtain⟨box,aN,cV⟩:=hs.bx i b hb;simp only[fy,aN]at hk;cases box with
   |rows=>exact hk.elim
   |map=>exact hk.elim
   |aA=>exact hk.elim
   |aJ=>exact hk.elim
   |flat fz cells=>
    obtain⟨_,R',c,t',dh,hh,hr⟩:=cV;rw[hR]at dh;cases dh;have ca:∀(j:Nat),w.cell? ⟨R,j,none⟩=c.toList[j]?:=λj=>by rw[bO hh];simp
    cases ha:ti.agg with
    |true=>
     simp only[ha]at hk;cases he:cQ cells off ti.size with
     |none=>rw[he]at hk;exact hk.elim
     |some e=>
      rw[he]at hk;simp only[ax]at hk;obtain⟨rfl,hl,vc⟩:=sub off ti.size _ _ hr e he;obtain⟨v,hv,xb⟩:=agg R (b.o+off) _ _ ha (λj v hv=>by rw[ca,Nat.add_assoc];exact vb (slice _ _ _ _ _ hv)) vc hl;exact⟨v,_,hv,hk,xb⟩
    |false=>
     simp only[ha]at hk;cases he:cells[off]? with
     |none=>rw[he]at hk;exact hk.elim
     |some e=>
      rw[he]at hk;obtain⟨v,hv,xb,_⟩:=hr.get he;exact⟨v,e,one R (b.o+off) v ha (by rw[ca];exact vb hv),hk,xb⟩
  |bH i off=>
   cases hp with
   |bH _ _ b R hb hf hR=>
   obtain⟨box,aN,cV⟩:=hs.bx i b hb;simp only[fy,aN]at hk;cases box with
   |rows=>exact hk.elim
   |map=>exact hk.elim
   |aA=>exact hk.elim
   |aJ=>exact hk.elim
   |flat fz cells=>
    obtain⟨_,R',c,t',dh,hh,hr⟩:=cV;rw[hR]at dh;cases dh;have ca:∀(j:Nat),w.cell? ⟨R,j,none⟩=c.toList[j]?:=λj=>by rw[bO hh];simp
    cases ha:ti.agg with
    |true=>
     simp only[ha]at hk;obtain⟨cs,fS,hl,hk⟩:=hk;obtain⟨v,hv,xb⟩:=agg R (b.o+off) _ cs ha (λj v hv=>by rw[ca,Nat.add_assoc];exact vb (slice off ti.size _ _ _ hv)) (fS▸(hr.drop off).take ti.size) hl;exact⟨v,_,hv,hk,xb⟩
    |false=>
     simp only[ha]at hk;obtain⟨d,he,hk⟩:=hk;obtain⟨v,hv,xb,_⟩:=hr.get he;exact⟨v,d,one R (b.o+off) v ha (by rw[ca];exact vb hv),hk,xb⟩
  |bM i g r off=>
   cases hp with
   |dT x _ _ _ _ b hb hf hg=>
    obtain⟨box,aN,cV⟩:=hs.bx i b hb;simp only[fy,aN]at hk;cases box with
    |flat=>exact hk.elim
    |map=>exact hk.elim
    |aA=>exact hk.elim
    |aJ=>exact hk.elim
    |rows fz g' sz rs=>
     obtain⟨_,Qv,_⟩:=cV;have:Nat.beq g g'=false:=Bool.eq_false_iff.2 λe=>by have:=Nat.eq_of_beq_eq_true e;omega
     simp only[this,dK]at hk
   |bM _ _ _ _ b R hb hf hR hg=>
   obtain⟨box,aN,cV⟩:=hs.bx i b hb;simp only[fy,aN]at hk;cases box with
   |flat=>exact hk.elim
   |map=>exact hk.elim
   |aA=>exact hk.elim
   |aJ=>exact hk.elim
   |rows fz g' sz rs=>
    obtain⟨_,Qv,dQ,_,aI,ia,hm⟩:=cV;have:Nat.beq g g'=true:=by rw[<-hg,<-Qv];exact Nat.beq_refl _
    simp only[this,dK]at hk;obtain⟨row,hrw,hk⟩:=hk;rw[hR]at hm;obtain⟨c,t',hh,fS,hd⟩:=hm;rw[dQ];have ca:∀(j:Nat),w.cell? ⟨R,j,none⟩=c.toList[j]?:=λj=>by rw[bO hh];simp
    have gi:=aI r row hrw;have cM:∀(j:Nat)(d:D),row[j]?=some d->∃v,c.toList[b.o+r*sz+j]?=some v/\Rel I dM v d/\v.oneCell'=true:=λj d hj=>by
     obtain⟨v,h1,h2,h3⟩:=hd r row j d hrw hj;exact⟨v,by rw[Nat.add_assoc];simpa using h1,h2,h3⟩
    have dv:∀j,j<row.length->b.o+r*sz+j<c.toList.length:=λj hj=>by
     obtain⟨v,h1,_⟩:=cM j _ (List.getElem?_eq_getElem hj);exact(List.getElem?_eq_some_iff.1 h1).1
    have vc:cT I β ((c.toList.drop (b.o+r*sz)).take row.length) row:=by
     have hlen:((c.toList.drop (b.o+r*sz)).take row.length).length=row.length:=by
      rcases Nat.eq_zero_or_pos row.length with h0|h0
      .simp[h0]
      have:=dv (row.length-1) (by omega);simp only[List.length_take,List.length_drop];omega
     refine⟨⟨hlen,λj v d hv hj=>?_⟩,λv hv=>?_⟩
     .obtain⟨v',h1,h2,_⟩:=cM j d hj
      have:=slice _ _ _ _ _ hv;rw[h1]at this;cases this;exact h2.lift I.le_refl
     obtain⟨j,hj,rfl⟩:=List.getElem_of_mem hv;have xm:j<row.length:=by omega
     obtain⟨v',h1,_,h3⟩:=cM j _ (List.getElem?_eq_getElem xm);have:=slice (b.o+r*sz) row.length c.toList j _ (List.getElem?_eq_getElem hj);rw[h1]at this;cases this;exact h3
    cases ha:ti.agg with
    |true=>
     simp only[ha]at hk;cases he:cQ row off ti.size with
     |none=>rw[he]at hk;exact hk.elim
     |some e=>
      rw[he]at hk;simp only[ax]at hk;obtain⟨rfl,hl,Jz⟩:=sub off ti.size _ _ vc e he;obtain⟨v,hv,xb⟩:=agg R (b.o+(r*sz+off)) _ _ ha (λj v hv=>by rw[ca,Nat.add_assoc,Nat.add_assoc,<-Nat.add_assoc];exact slice _ _ _ _ _ (slice _ _ _ _ _ hv)) Jz hl;exact⟨v,_,hv,hk,xb⟩
    |false=>
     simp only[ha]at hk;cases he:row[off]? with
     |none=>rw[he]at hk;exact hk.elim
     |some e=>
      rw[he]at hk;obtain⟨v,h1,h2,_⟩:=cM off e he;exact⟨v,e,one R _ v ha (by rw[ca,<-Nat.add_assoc];exact h1),hk,h2.lift I.le_refl⟩
  |ro cells=>
   cases hp with
   |ro B off _ u hI h1 hu=>
   have ca:∀j,j<cells.length->w.cell? ⟨B,off+j,none⟩=some (u j):=λj hj=>jX (hs.agree _ _ _ (hI j hj)) (h1 j hj);have vc:cT I β ((List.range cells.length).map u) cells:=by
    refine⟨⟨by simp,λj v d hv hd=>?_⟩,λv hv=>?_⟩
    .have hj:j<cells.length:=(List.getElem?_eq_some_iff.1 hd).1
     simp[hj]at hv;subst hv;exact(hu j d hd).lift I.le_refl
    simp at hv;obtain⟨j,hj,rfl⟩:=hv;exact h1 j hj
   simp only[fy]at hk;cases ha:ti.agg with
   |true=>
    simp only[ha]at hk;cases he:cQ cells 0 ti.size with
    |none=>rw[he]at hk;exact hk.elim
    |some e=>
     rw[he]at hk;simp only[ax]at hk;obtain⟨rfl,hl,Jz⟩:=sub 0 ti.size _ _ vc e he;obtain⟨v,hv,xb⟩:=agg B off _ _ ha (λj v hv=>by
      have h2:=slice _ _ _ _ _ hv;have hj:j<cells.length:=by
       have:=(List.getElem?_eq_some_iff.1 h2).1;simpa using this
      simp[hj]at h2;rw[ca j hj,h2]) Jz hl
     exact⟨v,_,hv,hk,xb⟩
   |false=>
    simp only[ha]at hk;cases cells with
    |nil=>exact hk.elim
    |cons d r=>exact⟨u 0,d,one B off _ ha (ca 0 (by simp)),hk,(hu 0 d rfl).lift I.le_refl⟩
  |_=>exact hk.elim
end
end Go.V
namespace Go.V
open Go.RowKit
section
variable{P:Program}{T:Nat->Option TI}{cx:Cx}{V:Nat->Prop}{U:St}{β:BE}{I:aW}{S:Nat->Prop}{N:Nat}{a:Act}{w:World}
theorem ae{b:Bool}{p:Prop}(h:dK b p):b=true/\p:=by
 cases b
 .exact h.elim
 exact⟨rfl,h⟩
theorem tT(hT:br P T){t:TypeId}{ti:TI}(ht:T t=some ti){pv:Value}{p:D}(hp:Rel I β pv p){f off:Nat}{tf:TI}
    (hf:fK T ti.desc f=some (off,tf))(dw:0<tf.size){k:bE->Prop}(hk:eA p off k):
    ∃v d,(Instr.fieldAt t pv f).run P w=.ok v w/\k (.val d)/\Rel I β v d:=by
  have h:=hT t ti ht;unfold fK at hf;cases hd:ti.desc with
  |struct fs=>
   rw[hd]at hf;simp only at hf;cases hx:fs[f]? with
   |none=>rw[hx]at hf;cases hf
   |some x=>
    rw[hx]at hf;simp only at hf;cases hy:T x.type with
    |none=>rw[hy]at hf;cases hf
    |some tx=>
     rw[hy]at hf;cases hf;have dQ:=(hT _ _ hy).run_sizeOf (P:=P) w;have eh:¬tf.size=0:=by omega
     have UH:∀(A:Addr),(Instr.fieldAt t (.pointer (some A)) f).run P w=.ok (.pointer (some (A.add x.offset))) w:=by
      intro A;unfold Instr.fieldAt;simp only[Sem.run_bind,run_underlying (h.desc),hd,Result.andThen_ok,hx,Instr.sureAddr,Sem.run_pure,fieldPlace,dQ,if_neg eh]
     have key:∀(B o:Nat),(Instr.fieldAt t (.pointer (some ⟨B,o,none⟩)) f).run P w=.ok (.pointer (some ⟨B,o+x.offset,none⟩)) w:=by
      intro B o;rw[UH,cU]
     cases p with
     |loc i o=>cases hp with|loc _ _ b R hb dN hR=>simp only[eA,ba]at hk;exact⟨_,_,key R _,hk,by rw[Nat.add_assoc];exact .loc _ _ b R hb dN hR⟩
     |bH i o=>cases hp with|bH _ _ b R hb dN hR=>exact⟨_,_,key R _,hk,by rw[Nat.add_assoc];exact .bH _ _ b R hb dN hR⟩
     |bM i g r o=>
      cases hp with
      |bM _ _ _ _ b R hb dN hR hg=>
       refine⟨_,_,key R _,hk,?_⟩;rw[Nat.add_assoc,Nat.add_assoc];exact .bM _ _ _ _ b R hb dN hR hg
      |dT x _ _ _ _ b hb dN hg=>exact⟨_,_,UH x,hk,.dT _ _ _ _ _ b hb dN hg⟩
     |ro cs=>
      cases hp with
      |ro B o _ u hI h1 hu=>
       refine⟨_,_,key B o,hk,.ro B _ _ (λj=>u (x.offset+j)) (λj hj=>?_) (λj hj=>?_) (λj d gq=>?_)⟩
       .rw[Nat.add_assoc];exact hI _ (by simp at hj;omega)
       .exact h1 _ (by simp at hj;omega)
       exact hu _ d (by simpa using gq)
     |_=>exact hk.elim
  |_=>rw[hd]at hf;cases hf
theorem y7{ti te:TI}(hT:br P T){n:Nat}{e:TypeId}(hd:ti.desc=.array n e)(he:ee T ti.desc=some te):aj P e te:=by
 rw[hd]at he;exact hT e te he
theorem mb{ti te:TI}(hT:br P T){e:TypeId}(hd:ti.desc=.slice e)(he:ee T ti.desc=some te):aj P e te:=by
 rw[hd]at he;exact hT e te he
theorem tU{t:TypeId}{ti te:TI}(h:aj P t ti){n:Nat}{e:TypeId}(hd:ti.desc=.array n e)(he:aj P e te)(A:Addr)(k:IntKind)(i:Int)(hi:0<=i)(hn:i<n):
    (Instr.indexAt t (.pointer (some A)) (.int k i)).run P w=.ok (.pointer (some (A.add (i.toNat*te.size)))) w:=by
  have hc:0<=i/\i<(n:Int):=⟨hi,hn⟩;simp[Instr.indexAt,asIntOf,run_underlying h.desc,hd,Instr.sureAddr,hc,he.run_sizeOf]
theorem ke{t:TypeId}{ti te:TI}(h:aj P t ti){e:TypeId}(hd:ti.desc=.slice e)(he:aj P e te)(A:Addr)(len cap:Nat)(k:IntKind)(i:Int)(hi:0<=i)(hn:i<len):
    (Instr.indexAt t (.slice (some A) len cap) (.int k i)).run P w=.ok (.pointer (some (A.add (i.toNat*te.size)))) w:=by
  have hc:0<=i/\i<(len:Int):=⟨hi,hn⟩;simp[Instr.indexAt,asIntOf,run_underlying h.desc,hd,hc,he.run_sizeOf]
theorem Rel.aT{I:aW}{β:BE}{v:Value}{k:IntKind}{n:Int}(h:Rel I β v (.int k n)):v=.int k n:=by cases h;rfl
theorem tV(hT:br P T)(hs:bf cx V U β I S N a w){t:TypeId}{ti te:TI}(ht:T t=some ti)(eU:ee T ti.desc=some te){pv iv:Value}{p i:D}
    (hp:Rel I β pv p)(hi:Rel I β iv i){lit:Bool}{k:bE->Prop}(hk:eB U.boxes ti.desc te.size lit p i k):
    ∃v d,(Instr.indexAt t pv iv).run P w=.ok v w/\k (.val d)/\Rel I β v d:=by
  have h:=hT t ti ht;cases i with
  |int ki n=>
   obtain rfl:=hi.aT;simp only[eB]at hk;cases hd:ti.desc with
   |array len e=>
    have he:=y7 hT hd eU;rw[hd]at hk;simp only at hk;obtain⟨⟨h0,h1⟩,hk⟩:=hk;have key:=λA=>tU (w:=w) h hd he A ki n h0 h1;cases p with
    |loc b o=>
     cases hp with|loc _ _ bi R hb dN hR=>
     cases lit with
     |true=>simp only[ba]at hk;exact⟨_,_,key _,hk,by rw[cU,Nat.add_assoc];exact .loc _ _ bi R hb dN hR⟩
     |false=>
      obtain⟨m,hm,hk⟩:=hk;exact⟨_,_,key _,hk,by rw[cU,hm,Nat.add_assoc];exact .bH _ _ bi R hb dN hR⟩
    |bH b o=>
     cases hp with|bH _ _ bi R hb dN hR=>
     obtain⟨m,hm,hk⟩:=hk;exact⟨_,_,key _,hk,by rw[cU,hm,Nat.add_assoc];exact .bH _ _ bi R hb dN hR⟩
    |bM b g r o=>
     cases lit with
     |false=>exact hk.elim
     |true=>
      cases hp with
      |bM _ _ _ _ bi R hb dN hR hg=>exact⟨_,_,key _,hk,by rw[cU,Nat.add_assoc,Nat.add_assoc];exact .bM _ _ _ _ bi R hb dN hR hg⟩
      |dT x _ _ _ _ bi hb dN hg=>exact⟨_,_,key _,hk,.dT _ _ _ _ _ bi hb dN hg⟩
    |ro cs=>
     cases hp with|ro B o _ u hI MW hu=>
     obtain⟨xI,rfl,hk⟩:=hk;refine⟨_,_,key _,hk,?_⟩;rw[cU];refine .ro B _ _ (λj=>u (n.toNat*te.size+j)) (λj hj=>?_) (λj hj=>?_) (λj d gq=>?_)
     .rw[Nat.add_assoc];exact hI _ (by simp at hj;omega)
     .exact MW _ (by simp at hj;omega)
     exact hu _ d (by simpa using gq)
    |gp g o=>
     cases hp;obtain⟨m,hm,hk⟩:=hk;exact⟨_,_,key _,hk,by rw[cU,hm];exact .gp _ _⟩
    |_=>exact hk.elim
   |slice e=>
    have he:=mb hT hd eU;rw[hd]at hk;simp only at hk;cases p with
    |list sz rows=>
     obtain⟨dQ,h0,row,aI,hk⟩:=ae hk;have dQ:=Nat.eq_of_beq_eq_true dQ;have cG:n.toNat<rows.length:=(List.getElem?_eq_some_iff.1 aI).1;cases hp with
     |dj=>simp at cG
     |list B off cap _ _ u ia cb hI MW hu=>
     refine⟨_,_,ke h hd he ⟨B,off,none⟩ rows.length cap ki n h0 (by omega),hk,?_⟩;rw[cU,<-dQ];have hl:=cb _ _ aI;refine .ro B _ _ (λj=>u n.toNat j) (λj hj=>?_) (λj hj=>MW _ _ cG (by omega)) (λj d gq=>hu _ _ _ _ aI gq);have:=hI n.toNat j cG (by omega);rw[Nat.add_assoc];exact this
    |sl b g off len=>
     cases fp:U.boxes[b]? with
     |none=>simp only[fp]at hk
     |some box=>
      simp only[fp]at hk;cases box with
      |flat=>exact hk.elim
      |map=>exact hk.elim
      |aA=>exact hk.elim
      |aJ=>exact hk.elim
      |rows fz g' sz rs=>
       simp only at hk;obtain⟨k6,h0,hlen,m,rfl,hk⟩:=ae hk;cases mI:Nat.beq g g' with
       |false=>rw[mI]at k6;cases k6
       |true=>
        rw[mI]at k6;have mI:=Nat.eq_of_beq_eq_true mI;have k6:sz=te.size:=Nat.eq_of_beq_eq_true k6;cases hp with
        |cJ A c' _ _ _ _ bi hb dN hg=>
         obtain⟨box',dD,cV⟩:=hs.bx b bi hb;rw[fp]at dD;cases dD;obtain⟨_,eu,_⟩:=cV;omega
        |sl A c _ _ _ _ bi hb dN hg hc hl hn ha=>
         obtain⟨box',dD,cV⟩:=hs.bx b bi hb;rw[fp]at dD;cases dD;obtain⟨_,_,dQ,_⟩:=cV;obtain⟨R,hR,rfl⟩:=ha (by omega);refine⟨_,_,ke h hd he _ len c ki n h0 hlen,hk,?_⟩;rw[cU,<-k6,<-dQ,Nat.add_assoc,<-Nat.add_mul];have:=Rel.bM (I:=I) b g (off+n.toNat) 0 bi R hb dN hR hg;simpa using this
    |gj b off sz len=>
     obtain⟨Nr,h0,hlen,m,rfl,hk⟩:=ae hk;have Nr:=Nat.eq_of_beq_eq_true Nr;cases hp with
     |gj A c _ _ _ _ bi R hb dN hR hl ha=>
     obtain rfl:=ha (by omega);refine⟨_,_,ke h hd he ⟨R,bi.o+off,none⟩ len c ki n h0 hlen,hk,?_⟩;rw[cU,<-Nr,Nat.add_assoc];exact .bH b _ bi R hb dN hR
    |_=>exact hk.elim
   |_=>rw[hd]at hk;exact hk.elim
  |_=>exact hk.elim
end
end Go.V
namespace Go.V
open Go.RowKit
section
variable{P:Program}{T:Nat->Option TI}{cx:Cx}{V:Nat->Prop}{U:St}{β:BE}{I:aW}{S:Nat->Prop}{N:Nat}{a:Act}{w:World}
theorem kg{t:TypeId}{ti te:TI}(h:aj P t ti){e:TypeId}(hd:ti.desc=.slice e)(he:aj P e te)(A:Option Addr)(len cap:Nat)(lo hi:Option Value)(l h':Nat)
    (hh:(hi=none/\h'=len)\/∃k b,hi=some (.int k b)/\0<=b/\b<=cap/\h'=b.toNat)(hl:(lo=none/\l=0)\/∃k b,lo=some (.int k b)/\0<=b/\b<=h'/\l=b.toNat):
    (Instr.sliceAt t (.slice A len cap) lo hi none).run P w=.ok (.slice (if cap=l then A else A.map (·.add (l*te.size))) (h'-l) (cap-l)) w:=by
  unfold Instr.sliceAt;simp only[Sem.run_bind,run_underlying h.desc,hd,Result.andThen_ok];unfold Instr.slice;simp only[Sem.run_bind,run_underlying h.desc,hd,Result.andThen_ok];have hb:(Instr.sliceBounds true len cap lo hi none).run P w=.ok (l,h',cap) w:=by
   unfold Instr.sliceBounds;rcases hh with⟨rfl,rfl⟩|⟨k,b,rfl,A8,qm,rfl⟩<;>rcases hl with⟨rfl,rfl⟩|⟨k',b',rfl,DR,UI,rfl⟩
   .simp
   .have hc:0<=b'/\b'<=(h':Int):=⟨DR,UI⟩
    simp[Instr.sliceBound,asIntOf,hc]
   .have hc:0<=b/\b<=(cap:Int):=⟨A8,qm⟩
    simp[Instr.sliceBound,asIntOf,hc]
   have hc:0<=b/\b<=(cap:Int):=⟨A8,qm⟩;have ZD:0<=b'/\b'<=(b.toNat:Int):=⟨DR,UI⟩;have Qw:0<=b'/\b'<=b:=⟨DR,by omega⟩;have Qx:max b 0=b:=by omega
   simp[Instr.sliceBound,asIntOf,hc,ZD,Qw,Qx]
  rw[hb];simp[he.run_sizeOf]
theorem He{sz:Nat}{rows:List (List D)}{v:Value}(hr:Rel I β v (.list sz rows))(l h':Nat)(hl:l<=h')(hh:h'<=rows.length):
    ∃A cap,v=.slice A rows.length cap/\rows.length<=cap/\Rel I β (.slice (if cap=l then A else A.map (·.add (l*sz))) (h'-l) (cap-l)) (.list sz ((rows.take h').drop l)):=by
  cases hr with
  |dj A cap _=>
   simp only[List.length_nil]at hh;obtain rfl:h'=0:=by omega
   obtain rfl:l=0:=by omega
   exact⟨A,cap,rfl,Nat.zero_le _,.dj _ _ _⟩
  |list B off cap _ _ u ia cb hI h1 hu=>
   refine⟨some ⟨B,off,none⟩,cap,rfl,ia,?_⟩;rcases Nat.eq_or_lt_of_le hl with rfl|cG
   .have:(rows.take l).drop l=[]:=List.drop_eq_nil_of_le (by simp;omega)
    rw[this,Nat.sub_self];exact .dj _ _ _
   rw[if_neg (by omega)];have hlen:((rows.take h').drop l).length=h'-l:=by simp;omega
   simp only[Option.map_some,cU];have cM:∀(r:Nat)(row:List D),((rows.take h').drop l)[r]?=some row->rows[l+r]?=some row:=by
    intro r row hr;rw[List.getElem?_drop,List.getElem?_take]at hr;split at hr
    .exact hr
    cases hr
   have:=Rel.list (I:=I) (β:=β) B (off+l*sz) (cap-l) sz ((rows.take h').drop l) (λr j=>u (l+r) j) (by rw[hlen];omega) (λr row hr=>cb _ _ (cM r row hr))
    (λr j hr hj=>by
     have hx:=hI (l+r) j (by omega) hj;rw[Nat.add_mul]at hx;rw[<-hx];congr 1;omega)
    (λr j hr hj=>h1 _ _ (by omega) hj) (λr row j d hr hd=>hu _ _ _ _ (cM r row hr) hd)
   rw[hlen]at this;exact this
theorem tW{t:TypeId}{ti te:TI}(h:aj P t ti){n:Nat}{e:TypeId}(hd:ti.desc=.array n e)(he:aj P e te)(A:Addr)(lo hi:Option Value)(l h':Nat)(h1:l<=h')(h2:h'<=n)
    (hh:(hi=none/\h'=n)\/∃k b,hi=some (.int k b)/\0<=b/\h'=b.toNat)(hl:(lo=none/\l=0)\/∃k b,lo=some (.int k b)/\0<=b/\l=b.toNat):
    (Instr.sliceAt t (.pointer (some A)) lo hi none).run P w=.ok (.slice (some (if n=l then A else A.add (l*te.size))) (h'-l) (n-l)) w:=by
  unfold Instr.sliceAt;simp only[Sem.run_bind,run_underlying h.desc,hd,Result.andThen_ok,Instr.sureAddr,Sem.run_pure];have hb:(Instr.sliceBounds false n n lo hi none).run P w=.ok (l,h',n) w:=by
   unfold Instr.sliceBounds;rcases hh with⟨rfl,rfl⟩|⟨k,b,rfl,A8,rfl⟩<;>rcases hl with⟨rfl,rfl⟩|⟨k',b',rfl,DR,rfl⟩
   .simp
   .have hc:0<=b'/\b'<=(h':Int):=⟨DR,by omega⟩
    simp[Instr.sliceBound,asIntOf,hc]
   .have hc:0<=b/\b<=(n:Int):=⟨A8,by omega⟩
    simp[Instr.sliceBound,asIntOf,hc]
   have hc:0<=b/\b<=(n:Int):=⟨A8,by omega⟩;have ZD:0<=b'/\b'<=(b.toNat:Int):=⟨DR,by omega⟩;have Qw:0<=b'/\b'<=b:=⟨DR,by omega⟩;have Qx:max b 0=b:=by omega
   simp[Instr.sliceBound,asIntOf,hc,ZD,Qw,Qx]
  rw[hb];simp[he.run_sizeOf]
theorem A9{I:aW}{β:BE}{lv hv:Option Value}{lo hi:Option D}(cY:∀d,lo=some d->∃v,lv=some v/\Rel I β v d)(lM:lo=none->lv=none)(Ba:∀d,hi=some d->∃v,hv=some v/\Rel I β v d)(Bb:hi=none->hv=none){l h' n:Nat}
    (h3:(lo=none/\l=0)\/∃kd a,lo=some (.int kd a)/\0<=a/\l=a.toNat)(h4:(hi=none/\h'=n)\/∃kd b,hi=some (.int kd b)/\0<=b/\h'=b.toNat):
    ((lv=none/\l=0)\/∃kd a,lv=some (.int kd a)/\0<=a/\l=a.toNat)/\((hv=none/\h'=n)\/∃kd b,hv=some (.int kd b)/\0<=b/\h'=b.toNat):=by
  constructor
  .rcases h3 with⟨e,e'⟩|⟨kd,a,e,e',ZE⟩
   .exact .inl ⟨lM e,e'⟩
   obtain⟨v,h1,h2⟩:=cY _ e;exact .inr ⟨kd,a,by rw[h1,h2.aT],e',ZE⟩
  rcases h4 with⟨e,e'⟩|⟨kd,a,e,e',ZE⟩
  .exact .inl ⟨Bb e,e'⟩
  obtain⟨v,h1,h2⟩:=Ba _ e;exact .inr ⟨kd,a,by rw[h1,h2.aT],e',ZE⟩
theorem Bc(hT:br P T)(hs:bf cx V U β I S N a w){t:TypeId}{ti te:TI}(ht:T t=some ti)(eU:ee T ti.desc=some te){pv:Value}{p:D}(hp:Rel I β pv p)
    {lv hv:Option Value}{lo hi:Option D}(cY:∀d,lo=some d->∃v,lv=some v/\Rel I β v d)(lM:lo=none->lv=none)(Ba:∀d,hi=some d->∃v,hv=some v/\Rel I β v d)(Bb:hi=none->hv=none)
    {k:bE->Prop}(hk:jx U.boxes ti.desc te.size p lo hi k):
    ∃v d,(Instr.sliceAt t pv lv hv none).run P w=.ok v w/\k (.val d)/\Rel I β v d:=by
  have h:=hT t ti ht;unfold jx at hk;cases hd:ti.desc with
  |slice e=>
   have he:=mb hT hd eU;rw[hd]at hk;simp only at hk;cases p with
   |list sz rows=>
    obtain⟨dQ,hk⟩:=ae hk;have dQ:=Nat.eq_of_beq_eq_true dQ;have key:∀(l h':Nat),l<=h'->h'<=rows.length->((hv=none/\h'=rows.length)\/∃k b,hv=some (.int k b)/\0<=b/\h'=b.toNat)->((lv=none/\l=0)\/∃k b,lv=some (.int k b)/\0<=b/\l=b.toNat)->
        ∃v,(Instr.sliceAt t pv lv hv none).run P w=.ok v w/\Rel I β v (.list sz ((rows.take h').drop l)):=by
      intro l h' hl hh h1 h2;obtain⟨A,cap,rfl,ia,hr⟩:=He hp l h' hl hh;refine⟨_,kg h hd he A _ cap lv hv l h' ?_ ?_,by rw[<-dQ];exact hr⟩
      .rcases h1 with⟨e1,e2⟩|⟨k,b,e1,e2,e3⟩
       .exact .inl ⟨e1,e2⟩
       exact .inr ⟨k,b,e1,e2,by omega,e3⟩
      rcases h2 with⟨e1,e2⟩|⟨k,b,e1,e2,e3⟩
      .exact .inl ⟨e1,e2⟩
      exact .inr ⟨k,b,e1,e2,by omega,e3⟩
    cases lo with
    |none=>
     have DS:=lM rfl;cases hi with
     |none=>
      obtain⟨v,xn,xc⟩:=key 0 rows.length (by omega) (Nat.le_refl _) (.inl ⟨Bb rfl,rfl⟩) (.inl ⟨DS,rfl⟩);exact⟨v,_,xn,hk,by simpa using xc⟩
     |some d=>
      obtain⟨v',e1,e2⟩:=Ba d rfl;cases d with
      |int kd b=>
       obtain rfl:=e2.aT;obtain⟨⟨h0,h1⟩,l,rfl,hk⟩:=hk;obtain⟨v,xn,xc⟩:=key 0 b.toNat (by omega) (by omega) (.inr ⟨_,b,e1,h0,rfl⟩) (.inl ⟨DS,rfl⟩);exact⟨v,_,xn,hk,by simpa using xc⟩
      |_=>exact hk.elim
    |some d'=>
     obtain⟨v1,Hf,JA⟩:=cY d' rfl;cases d' with
     |int kd' a'=>
      obtain rfl:=JA.aT;cases hi with
      |none=>
       obtain⟨⟨h0,h1⟩,l,rfl,hk⟩:=hk;obtain⟨v,xn,xc⟩:=key a'.toNat rows.length (by omega) (Nat.le_refl _) (.inl ⟨Bb rfl,rfl⟩) (.inr ⟨_,a',Hf,h0,rfl⟩);exact⟨v,_,xn,hk,by simpa using xc⟩
      |some d=>
       obtain⟨v',e1,e2⟩:=Ba d rfl;cases d with
       |int kd b=>
        obtain rfl:=e2.aT;obtain⟨⟨h0,h1,h2⟩,l,rfl,hk⟩:=hk;obtain⟨v,xn,xc⟩:=key a'.toNat b.toNat (by omega) (by omega) (.inr ⟨_,b,e1,by omega,rfl⟩) (.inr ⟨_,a',Hf,h0,rfl⟩);exact⟨v,_,xn,hk,xc⟩
       |_=>exact hk.elim
     |_=>cases hi<;>exact hk.elim
   |sl i g off len=>
    cases fp:U.boxes[i]? with
    |none=>simp only[fp]at hk
    |some box=>
     simp only[fp]at hk;cases box with
     |flat=>exact hk.elim
     |map=>exact hk.elim
     |aA=>exact hk.elim
     |aJ=>exact hk.elim
     |rows fz g' sz rs=>
      simp only at hk;obtain⟨k6,hk⟩:=ae hk;cases mI:Nat.beq g g' with
      |false=>rw[mI]at k6;cases k6
      |true=>
       rw[mI]at k6;have mI:=Nat.eq_of_beq_eq_true mI;have k6:sz=te.size:=Nat.eq_of_beq_eq_true k6;cases hp with
       |cJ A c' _ _ _ _ bi hb dN hg=>
        obtain⟨box',dD,cV⟩:=hs.bx i bi hb;rw[fp]at dD;cases dD;obtain⟨_,eu,_⟩:=cV;omega
       |sl A c _ _ _ _ bi hb dN hg hc hl hn ha=>
        obtain⟨box',dD,cV⟩:=hs.bx i bi hb;rw[fp]at dD;cases dD;obtain⟨_,_,dQ,_⟩:=cV;have key:∀(l h':Nat),l<=h'->h'<=len->((hv=none/\h'=len)\/∃k b,hv=some (.int k b)/\0<=b/\h'=b.toNat)->((lv=none/\l=0)\/∃k b,lv=some (.int k b)/\0<=b/\l=b.toNat)->
            ∃v,(Instr.sliceAt t (.slice A len c) lv hv none).run P w=.ok v w/\Rel I β v (.sl i g (off+l) (h'-l)):=by
          intro l h' uw hh h1 h2;refine⟨_,kg h hd he A _ c lv hv l h' ?_ ?_,?_⟩
          .rcases h1 with⟨e1,e2⟩|⟨k,b,e1,e2,e3⟩
           .exact .inl ⟨e1,e2⟩
           exact .inr ⟨k,b,e1,e2,by omega,e3⟩
          .rcases h2 with⟨e1,e2⟩|⟨k,b,e1,e2,e3⟩
           .exact .inl ⟨e1,e2⟩
           exact .inr ⟨k,b,e1,e2,by omega,e3⟩
          refine .sl _ _ i g _ _ bi hb dN hg (by omega) (by omega) (by omega) (λdw=>?_);obtain⟨R,hR,rfl⟩:=ha (by omega);refine⟨R,hR,?_⟩;rw[if_neg (by omega)];simp only[Option.map_some,cU,dQ,k6,Nat.add_mul,Nat.add_assoc]
        cases lo with
        |none=>
         have DS:=lM rfl;cases hi with
         |none=>
          obtain⟨v,xn,xc⟩:=key 0 len (by omega) (Nat.le_refl _) (.inl ⟨Bb rfl,rfl⟩) (.inl ⟨DS,rfl⟩);exact⟨v,_,xn,hk,by simpa using xc⟩
         |some d=>
          obtain⟨v',e1,e2⟩:=Ba d rfl;cases d with
          |int kd b=>
           obtain rfl:=e2.aT;obtain⟨⟨h0,h1⟩,hk⟩:=hk;obtain⟨v,xn,xc⟩:=key 0 b.toNat (by omega) (by omega) (.inr ⟨_,b,e1,h0,rfl⟩) (.inl ⟨DS,rfl⟩);exact⟨v,_,xn,hk,by simpa using xc⟩
          |_=>exact hk.elim
        |some d'=>
         obtain⟨v1,Hf,JA⟩:=cY d' rfl;cases d' with
         |int kd' a'=>
          obtain rfl:=JA.aT;cases hi with
          |none=>
           obtain⟨⟨h0,h1⟩,hk⟩:=hk;obtain⟨v,xn,xc⟩:=key a'.toNat len (by omega) (Nat.le_refl _) (.inl ⟨Bb rfl,rfl⟩) (.inr ⟨_,a',Hf,h0,rfl⟩);exact⟨v,_,xn,hk,xc⟩
          |some d=>
           obtain⟨v',e1,e2⟩:=Ba d rfl;cases d with
           |int kd b=>
            obtain rfl:=e2.aT;obtain⟨⟨h0,h1,h2⟩,hk⟩:=hk;obtain⟨v,xn,xc⟩:=key a'.toNat b.toNat (by omega) (by omega) (.inr ⟨_,b,e1,by omega,rfl⟩) (.inr ⟨_,a',Hf,h0,rfl⟩);exact⟨v,_,xn,hk,xc⟩
           |_=>exact hk.elim
         |_=>cases hi<;>exact hk.elim
   |gj i off sz len=>
    obtain⟨dQ,hk⟩:=ae hk;have dQ:=Nat.eq_of_beq_eq_true dQ;obtain⟨l,h',h1,h2,hk,h3,h4,_⟩:=qq hk;cases hp with
    |gj A c _ _ _ _ bi R hb dN hR hl ha=>
    obtain⟨h3,h4⟩:=A9 cY lM Ba Bb h3 h4;refine⟨_,_,kg h hd he A len c lv hv l h' (h4.imp id λ⟨kd,b,e1,e2,e3⟩=>⟨kd,b,e1,e2,by omega,e3⟩) (h3.imp id λ⟨kd,b,e1,e2,e3⟩=>⟨kd,b,e1,e2,by omega,e3⟩),hk,?_⟩;refine .gj _ _ i _ _ _ bi R hb dN hR (by omega) λdw=>?_;rw[if_neg (by omega),ha (by omega)];simp only[Option.map_some,cU,dQ,Nat.add_assoc]
   |_=>exact hk.elim
  |array n e=>
   rw[hd]at hk;simp only at hk;have he:aj P e te:=hT e te (by rw[hd]at eU;exact eU);cases p with
   |loc i off=>
    obtain⟨l,h',h1,h2,hk,h3,h4,_⟩:=qq hk;cases hp with
    |loc _ _ bi R hb dN hR=>
    obtain⟨h3,h4⟩:=A9 cY lM Ba Bb h3 h4;refine⟨_,_,tW h hd he ⟨R,bi.o+off,none⟩ lv hv l h' h1 h2 h4 h3,hk,?_⟩;refine .gj _ _ i _ _ _ bi R hb dN hR (by omega) λdw=>?_;rw[if_neg (by omega),cU,Nat.add_assoc]
   |_=>exact hk.elim
  |_=>rw[hd]at hk;exact hk.elim
end
end Go.V
