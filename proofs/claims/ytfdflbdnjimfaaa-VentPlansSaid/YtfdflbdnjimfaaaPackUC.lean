/- How single operations of the model run, told by abstract values: numbers, equality, parts of values; How single operations of the model run, told by abstract values: parts of values, values put together, new memory; How single operations of the model run, told by abstract values: aggregates, slices, new memory; What is handed to a callee and back, and a call by its contract. No condition. -/
import Derived.Laws.StructEq
import Derived.Test.YtfdflbdnjimfaaaPackUB

namespace Go.V
open Go.RowKit

section
variable {P:Program} {T:Nat→Option TI} {cx:Cx} {V:Nat→Prop} {σ:St} {β:BE} {I:Imm} {S:Nat→Prop} {N:Nat} {a:Act} {w:World}

theorem same_eq {k k':IntKind} (h:same k k'=true):k=k':=by cases k <;> cases k' <;> first | rfl | cases h

theorem Rel.str_inv {v:Value} {s:ByteArray} (h:Rel I β v (.str s)):v=.string s:=by cases h;rfl

theorem asBool_inv {v:Value} {d:D} {b:Bool} (h:Rel I β v d) (hd:asBoolD d=some b):v=.bool b:=by
 cases h <;> first | (cases hd;rfl) | cases hd

theorem eqL_eqV:∀ {z xs ys:List D} {vs us:List Value} {b:Bool},RelL I β vs xs→RelL I β us ys→eqLz z xs ys=some b→eqV z vs us=some b
 | [],[],[],vs,us,b,h1,h2,hb=>by rw [h1.nil_inv,h2.nil_inv];simpa [eqLz,eqV] using hb
 | [],[],_::_,_,_,_,_,_,hb=>by simp [eqLz] at hb
 | [],_::_,_,_,_,_,_,_,hb=>by simp [eqLz] at hb
 | d::_,[],_,_,_,_,_,_,hb=>by cases d <;> simp [eqLz] at hb
 | d::_,_::_,[],_,_,_,_,_,hb=>by cases d <;> simp [eqLz] at hb
 | d::z,x::xs,y::ys,vs,us,b,h1,h2,hb=>by
  obtain ⟨v,vs',rfl,hv,hvs⟩:=h1.cons_inv
  obtain ⟨u,us',rfl,hu,hus⟩:=h2.cons_inv
  cases d with
  | int k0 m0 =>
   simp only [eqLz] at hb
   cases x with
   | int kx m =>
    cases y with
    | int ky n =>
     obtain rfl:=hv.int_inv
     obtain rfl:=hu.int_inv
     simp only [eqD] at hb
     simp only [eqV]
     cases hk:same kx ky with
     | false=>rw [hk] at hb;simp at hb
     | true =>
      rw [hk] at hb
      simp only at hb ⊢
      cases he:eqLz z xs ys with
      | none=>rw [he] at hb;cases hb
      | some c =>
       rw [he] at hb
       rw [eqL_eqV hvs hus he]
       simpa using hb
    | _=>simp [eqD] at hb
   | _=>simp [eqD] at hb
  | ff =>
   simp only [eqLz] at hb
   cases hx:asBoolD x with
   | none=>rw [hx] at hb;cases hb
   | some a =>
    cases hy:asBoolD y with
    | none=>rw [hx,hy] at hb;cases hb
    | some c =>
     rw [hx,hy] at hb
     rw [asBool_inv hv hx,asBool_inv hu hy]
     simp only [eqV]
     simp only at hb
     cases he:eqLz z xs ys with
     | none=>rw [he] at hb;cases hb
     | some c' =>
      rw [he] at hb
      rw [eqL_eqV hvs hus he]
      simpa using hb
  | _=>simp [eqLz] at hb

theorem eqL_eqLz:∀ {z xs ys:List D} {b:Bool},allInt z=true→z.length=xs.length→eqL xs ys=some b→eqLz z xs ys=some b
 | [],[],[],_,_,_,h=>h
 | [],[],_::_,_,_,_,h=>by cases h
 | [],_::_,_,_,_,hl,_=>by cases hl
 | _::_,[],_,_,_,hl,_=>by cases hl
 | _::_,_::_,[],_,_,_,h=>by cases h
 | d::z,x::xs,y::ys,b,hz,hl,h=>by
  cases d with
  | int k m =>
   simp only [eqL] at h
   simp only [eqLz]
   cases hd:eqD x y with
   | none=>rw [hd] at h;cases h
   | some a =>
    rw [hd] at h
    simp only at h ⊢
    cases he:eqL xs ys with
    | none=>rw [he] at h;cases h
    | some c =>
     rw [he] at h
     rw [eqL_eqLz (z:=z) hz (by simpa using hl) he]
     exact h
  | _=>cases hz

abbrev binRun (op:BinOp) (t:TypeId) (x y:Operand) (u v:Value):Sem Value:=do eqGuard op t x y u v;binOp op t u v

theorem bin_sound (hT:TOK P T) {t:TypeId} {ti:TI} (ht:T t=some ti) {x y:Operand} {u v:Value} {d e:D} (hu:Rel I β u d) (hv:Rel I β v e) {op:BinOp} {k:D→Prop} (hk:binE ti op d e k) :
    ∃ z f,(binRun op t x y u v).run P w=.ok z w∧k f∧Rel I β z f:=by
  have h:=hT t ti ht
  cases d with
  | int kx m =>
   obtain rfl:=hu.int_inv
   cases e with
   | int ky n =>
    obtain rfl:=hv.int_inv
    cases op with
    | shl =>
     obtain ⟨h0,r,rfl,hk⟩:=hk
     refine ⟨_,_,?_,hk,.int _ _⟩
     have:¬ n<0:=by omega
     simp [binRun,binOp,Op.shift,this,eqGuard]
    | shr =>
     obtain ⟨h0,r,rfl,hk⟩:=hk
     refine ⟨_,_,?_,hk,.int _ _⟩
     have:¬ n<0:=by omega
     simp [binRun,binOp,Op.shift,this,eqGuard]
    | quo =>
     obtain ⟨hs,h0,r,rfl,hk'⟩:=iff'_true hk
     clear hk
     obtain rfl:=same_eq hs
     exact ⟨_,_,by simp [binRun,binOp,Op.intDiv,h0,eqGuard],hk',.int _ _⟩
    | rem =>
     obtain ⟨hs,h0,r,rfl,hk'⟩:=iff'_true hk
     clear hk
     obtain rfl:=same_eq hs
     exact ⟨_,_,by simp [binRun,binOp,Op.intDiv,h0,eqGuard],hk',.int _ _⟩
    | add =>
     obtain ⟨hs,r,rfl,hk'⟩:=iff'_true hk
     clear hk
     obtain rfl:=same_eq hs
     exact ⟨_,_,by simp [binRun,binOp,Op.intArith,eqGuard],hk',.int _ _⟩
    | sub =>
     obtain ⟨hs,r,rfl,hk'⟩:=iff'_true hk
     clear hk
     obtain rfl:=same_eq hs
     exact ⟨_,_,by simp [binRun,binOp,Op.intArith,eqGuard],hk',.int _ _⟩
    | mul =>
     obtain ⟨hs,r,rfl,hk'⟩:=iff'_true hk
     clear hk
     obtain rfl:=same_eq hs
     exact ⟨_,_,by simp [binRun,binOp,Op.intArith,eqGuard],hk',.int _ _⟩
    | and =>
     obtain ⟨hs,r,rfl,hk'⟩:=iff'_true hk
     clear hk
     obtain rfl:=same_eq hs
     exact ⟨_,_,by simp [binRun,eqGuard,binOp_and,intBits_and],hk',.int _ _⟩
    | or =>
     obtain ⟨hs,r,rfl,hk'⟩:=iff'_true hk
     clear hk
     obtain rfl:=same_eq hs
     exact ⟨_,_,by simp [binRun,eqGuard,binOp_or,intBits_or],hk',.int _ _⟩
    | xor =>
     obtain ⟨hs,r,rfl,hk'⟩:=iff'_true hk
     clear hk
     obtain rfl:=same_eq hs
     exact ⟨_,_,by simp [binRun,eqGuard,binOp_xor,intBits_xor],hk',.int _ _⟩
    | andNot =>
     obtain ⟨hs,r,rfl,hk'⟩:=iff'_true hk
     clear hk
     obtain rfl:=same_eq hs
     exact ⟨_,_,by simp [binRun,eqGuard,binOp_andNot,intBits_andNot],hk',.int _ _⟩
    | eql | neq | lss | leq | gtr | geq =>
     obtain ⟨hs,hk'⟩:=iff'_true hk
     clear hk
     obtain rfl:=same_eq hs
     exact ⟨_,_,by simp [binRun,binOp,Op.intCmp,eqGuard],hk',.bool _⟩
   | _=>simp [binE,asBoolD] at hk
  | str s =>
   obtain rfl:=hu.str_inv
   cases e with
   | str s' =>
    obtain rfl:=hv.str_inv
    cases op with
    | eql | neq=>exact ⟨_,_,by simp [binRun,binOp,Op.stringOp,eqGuard],hk,.bool _⟩
    | add =>
     have hb:¬ ((s.size+s'.size:Nat):Int) > IntKind.i64.max:=by
      have h1:=hk.1
      have h2:IntKind.i64.max=9223372036854775807:=by decide
      rw [h2];omega
     exact ⟨_,_,by simp only [binRun,binOp,Op.stringOp,eqGuard,if_neg hb];simp,hk.2,.str _⟩
    | _=>exact hk.elim
   | _=>simp [binE,asBoolD] at hk
  | agg xs =>
   cases e with
   | agg ys =>
    obtain ⟨cs,rfl,hcs⟩:=hu.agg_inv
    obtain ⟨cs',rfl,hcs'⟩:=hv.agg_inv
    simp only [binE] at hk
    cases hq:ti.eqs with
    | false=>rw [hq] at hk;simp at hk
    | true =>
     rw [hq] at hk
     cases he:eqLz ti.zero xs ys with
     | none=>rw [he] at hk;simp at hk
     | some b =>
      rw [he] at hk
      have hb:=fun hl=>h.eqs hq w x y cs cs' b hl (eqL_eqV hcs.1 hcs'.1 he)
      cases op with
      | eql=>obtain ⟨hl,hk⟩:=iff'_true hk;exact ⟨_,_,(hb (hcs.1.1.trans (Nat.eq_of_beq_eq_true hl))).1,hk,.bool _⟩
      | neq=>obtain ⟨hl,hk⟩:=iff'_true hk;exact ⟨_,_,(hb (hcs.1.1.trans (Nat.eq_of_beq_eq_true hl))).2,hk,.bool _⟩
      | _=>exact hk.elim
   | _=>simp [binE,asBoolD] at hk
  | tt | ff | bool b0 =>
   simp only [binE] at hk
   cases hd:ti.desc with
   | bool =>
    rw [hd] at hk
    cases op with
    | eql =>
     split at hk
     ·rename_i b1 b2 h1 h2
      cases asBool_inv hu h1
      cases asBool_inv hv h2
      exact ⟨_,_,by simp [binRun,eqGuard,run_eql_bool _ _ _ _ (hd ▸ h.desc)],hk,.bool _⟩
     ·rename_i hn;simp_all
     ·exact hk.elim
    | neq =>
     split at hk
     ·rename_i hn;simp_all
     ·rename_i b1 b2 h1 h2
      cases asBool_inv hu h1
      cases asBool_inv hv h2
      exact ⟨_,_,by simp [binRun,eqGuard,run_neq_bool _ _ _ _ (hd ▸ h.desc)],hk,.bool _⟩
     ·exact hk.elim
    | _=>exact hk.elim
   | _=>rw [hd] at hk;exact hk.elim
  | _=>simp [binE,asBoolD] at hk

end
end Go.V

namespace Go.V
open Go.RowKit

section
variable {P:Program} {T:Nat→Option TI} {cx:Cx} {V:Nat→Prop} {σ:St} {β:BE} {I:Imm} {S:Nat→Prop} {N:Nat} {a:Act} {w:World}

theorem min_sound {vs:List Value} {ds:List D} (h:RelL I β vs ds) {k:D→Prop} (hk:minE ds k) (ts:Array TypeId) (ty:TypeId) :
    ∃ v d,(Builtin.min_ ts ty vs.toArray).run P w=.ok v w∧k d∧Rel I β v d:=by
  match ds,hk with
  | [.int kx m,.int ky n],hk =>
   obtain ⟨v,vs,rfl,hv,h⟩:=h.cons_inv
   obtain ⟨u,us,rfl,hu,h⟩:=h.cons_inv
   obtain rfl:=h.nil_inv
   obtain rfl:=hv.int_inv
   obtain rfl:=hu.int_inv
   obtain ⟨hs,hk'⟩:=iff'_true hk
   refine ⟨.int kx (min m n),_,?_,hk',.int _ _⟩
   have:(if n<m then n else m)=min m n:=by omega
   simp [Builtin.min_,Builtin.min2,this]
  | [.int kx m,.int ky n,.int kz q],hk =>
   obtain ⟨v,vs,rfl,hv,h⟩:=h.cons_inv
   obtain ⟨u,us,rfl,hu,h⟩:=h.cons_inv
   obtain ⟨x,xs,rfl,hx,h⟩:=h.cons_inv
   obtain rfl:=h.nil_inv
   obtain rfl:=hv.int_inv
   obtain rfl:=hu.int_inv
   obtain rfl:=hx.int_inv
   obtain ⟨hs,hk'⟩:=iff'_true hk
   refine ⟨.int kx (min (min m n) q),_,?_,hk',.int _ _⟩
   have h1:(if n<m then n else m)=min m n:=by omega
   have h2:(if q<min m n then q else min m n)=min (min m n) q:=by omega
   simp [Builtin.min_,Builtin.min2,h1,h2]

theorem max_sound {vs:List Value} {ds:List D} (h:RelL I β vs ds) {k:D→Prop} (hk:maxE ds k) (ts:Array TypeId) (ty:TypeId) :
    ∃ v d,(Builtin.max_ ts ty vs.toArray).run P w=.ok v w∧k d∧Rel I β v d:=by
  match ds,hk with
  | [.int kx m,.int ky n],hk =>
   obtain ⟨v,vs,rfl,hv,h⟩:=h.cons_inv
   obtain ⟨u,us,rfl,hu,h⟩:=h.cons_inv
   obtain rfl:=h.nil_inv
   obtain rfl:=hv.int_inv
   obtain rfl:=hu.int_inv
   obtain ⟨hs,hk'⟩:=iff'_true hk
   refine ⟨.int kx (max m n),_,?_,hk',.int _ _⟩
   have:(if n > m then n else m)=max m n:=by omega
   have:(if m<n then n else m)=max m n:=by omega
   simp [Builtin.max_,Builtin.max2, *]

theorem len_sound {t:TypeId} {ti:TI} (h:TIok P t ti) {v:Value} {d:D} (hv:Rel I β v d) {e:TypeId} (hd:ti.desc=.slice e) {k:D→Prop} (hk:lenE d k) (ty:TypeId) :
    ∃ z e,(Builtin.len_ #[t] ty #[v]).run P w=.ok z w∧k e∧Rel I β z e:=by
  have key:∀ A n c,(Builtin.len_ #[t] ty #[.slice A n c]).run P w=.ok (.int .i64 n) w:=fun A n c=>by simp [Builtin.len_,run_underlying h.desc,hd,goInt]
  cases d with
  | list sz rows=>cases hv <;> exact ⟨_,_,key _ _ _,hk,.int _ _⟩
  | nils=>cases hv;exact ⟨_,_,key _ _ _,hk,.int _ _⟩
  | sl i g off len=>cases hv <;> exact ⟨_,_,key _ _ _,hk,.int _ _⟩
  | asl i len=>cases hv <;> exact ⟨_,_,key _ _ _,hk,.int _ _⟩
  | _=>exact hk.elim

theorem part_sound {t:TypeId} {ti:TI} (h:TIok P t ti) {cs:Array Value} {ds:List D} (hr:RelC I β cs.toList ds) {off:Nat} :
    (ti.agg=true→off+ti.size≤ds.length→∃ v,(part t cs off).run P w=.ok v w∧Rel I β v (.agg ((ds.drop off).take ti.size))) ∧
    (ti.agg=false→∀ d,ds[off]?=some d→∃ v,(part t cs off).run P w=.ok v w∧Rel I β v d):=by
  constructor
  ·intro ha hl
   refine ⟨.agg (cs.extract off (off+ti.size)),by simp [part,h.run_isAgg,ha,h.run_sizeOf],?_⟩
   have:=Rel.mkAgg ((hr.drop off).take ti.size)
   have e:cs.extract off (off+ti.size)=((cs.toList.drop off).take ti.size).toArray:=by
    apply Array.toList_inj.1
    simp
   rw [e];exact this
  ·intro ha d hd
   obtain ⟨v,hv,hvr,_⟩:=hr.get hd
   refine ⟨v,?_,hvr⟩
   have:cs[off]?=some v:=by simpa using hv
   simp [part,h.run_isAgg,ha,this]

theorem field_sound (hT:TOK P T) {t:TypeId} {ti:TI} (ht:T t=some ti) {v:Value} {cs:List D} (hv:Rel I β v (.agg cs)) {f off:Nat} {tf:TI} (hf:fieldTI T ti.desc f=some (off,tf)) :
    (tf.agg=true→off+tf.size≤cs.length→∃ z,(Instr.field t v f).run P w=.ok z w∧Rel I β z (.agg ((cs.drop off).take tf.size))) ∧
    (tf.agg=false→∀ d,cs[off]?=some d→∃ z,(Instr.field t v f).run P w=.ok z w∧Rel I β z d):=by
  have h:=hT t ti ht
  obtain ⟨xs,rfl,hxs⟩:=hv.agg_inv
  unfold fieldTI at hf
  cases hd:ti.desc with
  | struct fs =>
   rw [hd] at hf
   simp only at hf
   cases hx:fs[f]? with
   | none=>rw [hx] at hf;cases hf
   | some x =>
    rw [hx] at hf
    simp only at hf
    cases hy:T x.type with
    | none=>rw [hy] at hf;cases hf
    | some tx =>
     rw [hy] at hf
     cases hf
     have e:(Instr.field t (.agg xs) f).run P w=(part x.type xs x.offset).run P w:=by
      unfold Instr.field
      simp [run_underlying h.desc,hd,hx,asAgg]
     rw [e]
     exact part_sound (hT _ _ hy) hxs
  | _=>rw [hd] at hf;cases hf

theorem index_sound (hT:TOK P T) {t:TypeId} {ti te:TI} (ht:T t=some ti) {len:Nat} {e:TypeId} (hd:ti.desc=.array len e) (hte:TIok P e te) {v:Value} {cs:List D} (hv:Rel I β v (.agg cs))
    {kk:IntKind} {n:Int} (h0:0≤n) (h1:n<len) :
    (te.agg=true→n.toNat*te.size+te.size≤cs.length→∃ z,(Instr.index t v (.int kk n)).run P w=.ok z w∧Rel I β z (.agg ((cs.drop (n.toNat*te.size)).take te.size))) ∧
    (te.agg=false→∀ d,cs[n.toNat*te.size]?=some d→∃ z,(Instr.index t v (.int kk n)).run P w=.ok z w∧Rel I β z d):=by
  have h:=hT t ti ht
  obtain ⟨xs,rfl,hxs⟩:=hv.agg_inv
  have e:(Instr.index t (.agg xs) (.int kk n)).run P w=(part e xs (n.toNat*te.size)).run P w:=by
   have hc:0≤n∧n<(len:Int):=⟨h0,h1⟩
   unfold Instr.index
   simp [run_underlying h.desc,hd,asIntOf,hc,hte.run_sizeOf]
  rw [e]
  exact part_sound hte hxs

/-! ### Values put together -/

theorem splice_len (cs:List D) (off:Nat) (ds:List D) (h:off+ds.length≤cs.length):(splice cs off ds).length=cs.length:=by
 simp [splice];omega

def spliceV (cs:List Value) (off:Nat) (ds:List Value):List Value:=cs.take off++(ds++cs.drop (off+ds.length))

theorem RelC.splice {vs us:List Value} {cs ds:List D} (h:RelC I β vs cs) (h':RelC I β us ds) (off:Nat):RelC I β (spliceV vs off us) (splice cs off ds):=by
 unfold spliceV V.splice
 rw [h'.1.1]
 exact (h.take off).append (h'.append (h.drop _))

theorem set_seg (l:List Value) (o:Nat) (v:Value) (r:List Value) (h:o<l.length) :
    (l.set o v).take (o+1)++(r++(l.set o v).drop (o+1+r.length))=l.take o++((v::r)++l.drop (o+(v::r).length)):=by
  have e1:(l.set o v).take (o+1)=l.take o++[v]:=by
   rw [List.take_succ_eq_append_getElem (by simpa using h)]
   congr 1
   ·apply List.ext_getElem?
    intro i
    simp only [List.getElem?_take,List.getElem?_set]
    by_cases hi:i<o
    ·simp [hi];omega
    ·simp [hi]
   ·simp
  have e2:(l.set o v).drop (o+1+r.length)=l.drop (o+(v::r).length):=by
   apply List.ext_getElem?
   intro i
   simp only [List.getElem?_drop,List.getElem?_set,List.length_cons]
   rw [if_neg (by omega)]
   congr 1
   omega
  rw [e1,e2]
  simp

theorem foldl_splice:∀ (us:List Value) (k:Nat) (cs:Array Value) (off:Nat),off+k+us.length≤cs.size →
    (us.zipIdx k).foldl (fun (cs:Array Value) (x:Value × Nat)=>cs.setIfInBounds (off+x.2) x.1) cs=(spliceV cs.toList (off+k) us).toArray
  | [],k,cs,off,_=>by simp [spliceV]
  | v::r,k,cs,off,hc=>by
   simp only [List.length_cons] at hc
   simp only [List.zipIdx_cons,List.foldl_cons]
   rw [foldl_splice r (k+1) _ off (by simp;omega)]
   congr 1
   have:=set_seg cs.toList (off+k) v r (by simp;omega)
   simpa [spliceV,Nat.add_assoc] using this

theorem fill_step (u:Value) (cs:Array Value) (off:Nat) (hc:off+u.cells.size≤cs.size) :
    u.cells.zipIdx.foldl (fun (cs:Array Value) (x:Value × Nat)=>cs.setIfInBounds (off+x.2) x.1) cs=(spliceV cs.toList off u.cells.toList).toArray:=by
  have:=foldl_splice u.cells.toList 0 cs off (by simpa using hc)
  rw [Nat.add_zero] at this
  rw [← this,← Array.foldl_toList]
  simp [Array.toList_zipIdx]

theorem evP_sound (hs:Sim cx V σ β I S N a w):∀ {ps:List (Nat × Operand)} {l:List (Nat × D)},(∀ x t,x∈ps→x.2=.tmp t→V t)→σ.evP ps=some l →
    l.length=ps.length∧∀ (i:Nat) (x:Nat × Operand) (y:Nat × D),ps[i]?=some x→l[i]?=some y→x.1=y.1∧Rel I β (a.eval x.2) y.2
  | [],l,_,h=>by simp [St.evP] at h;subst h;exact ⟨rfl,fun i x y h=>by simp at h⟩
  | (j,x)::r,l,hV,h=>by
   simp only [St.evP] at h
   cases h1:σ.ev x with
   | none=>rw [h1] at h;cases h
   | some d =>
    rw [h1] at h
    cases h2:σ.evP r with
    | none=>rw [h2] at h;cases h
    | some l' =>
     rw [h2] at h
     cases h
     obtain ⟨hl,hr⟩:=evP_sound hs (fun y t hy e=>hV y t (by simp [hy]) e) h2
     refine ⟨by simp [hl],fun i y z hy hz=>?_⟩
     cases i with
     | zero =>
      simp at hy hz
      subst hy;subst hz
      exact ⟨rfl,hs.ev (fun t e=>hV (j,x) t (by simp) e) h1⟩
     | succ i=>exact hr i y z (by simpa using hy) (by simpa using hz)

theorem fill_sound {place:Nat→Option (Nat × Nat)} {placeD:Nat→Option (Nat × Nat)} (hp:∀ i x,placeD i=some x→place i=some x) :
    ∀ {ps:List (Nat × Value)} {l:List (Nat × D)} {cs:Array Value} {ds ds':List D},ps.length=l.length →
     (∀ (i:Nat) (x:Nat × Value) (y:Nat × D),ps[i]?=some x→l[i]?=some y→x.1=y.1∧Rel I β x.2 y.2)→RelC I β cs.toList ds→fillCells placeD ds l=some ds' →
     ∃ cs',Instr.fill place cs ps=some cs'∧RelC I β cs'.toList ds'
  | [],[],cs,ds,ds',_,_,hr,h=>by simp [fillCells] at h;subst h;exact ⟨cs,rfl,hr⟩
  | [],_::_,_,_,_,hl,_,_,_=>by simp at hl
  | _::_,[],_,_,_,hl,_,_,_=>by simp at hl
  | (i,v)::ps,(j,d)::l,cs,ds,ds',hl,hrel,hr,h=>by
   obtain ⟨hij,hvd⟩:=hrel 0 (i,v) (j,d) rfl rfl
   simp only at hij hvd
   subst hij
   simp only [fillCells] at h
   cases hpl:placeD i with
   | none=>rw [hpl] at h;simp at h
   | some x =>
    obtain ⟨off,size⟩:=x
    rw [hpl] at h
    cases hc:cellsOf d with
    | none=>rw [hc] at h;simp at h
    | some es =>
     rw [hc] at h
     simp only at h
     split at h
     ·rename_i h1 h2
      have h1:=Nat.eq_of_beq_eq_true h1
      have h2:off+size≤ds.length:=Nat.le_of_ble_eq_true h2
      have hcv:=hvd.cells hc
      have hsz:v.cells.size=size:=by have:=hcv.1.1;simp at this;omega
      have hdl:cs.size=ds.length:=by have:=hr.1.1;simpa using this
      have hstep:=fill_step v cs off (by omega)
      obtain ⟨cs',hf,hr'⟩:=fill_sound hp (cs:=(spliceV cs.toList off v.cells.toList).toArray) (by simpa using hl) (fun i x y hx hy=>hrel (i+1) x y (by simpa using hx) (by simpa using hy))
       (by simpa using hr.splice hcv off) h
      refine ⟨cs',?_,hr'⟩
      unfold Instr.fill
      rw [hp i _ hpl]
      have hb:(decide (v.cells.size≠size) || decide (off+v.cells.size > cs.size))=false:=by
       simp;omega
      simp only [hb,Bool.false_eq_true,if_false]
      rw [hstep]
      exact hf
     ·cases h

end
end Go.V

namespace Go.V
open Go.RowKit

section
variable {P:Program} {T:Nat→Option TI} {cx:Cx} {V:Nat→Prop} {σ:St} {β:BE} {I:Imm} {S:Nat→Prop} {N:Nat} {a:Act} {w:World}

theorem run_mapM_list {α γ:Type} (f:α→Sem γ) (g:α→γ):∀ (l:List α),(∀ x∈l,(f x).run P w=.ok (g x) w)→(l.mapM f).run P w=.ok (l.map g) w
 | [],_=>by simp
 | x::r,h=>by
  rw [List.mapM_cons]
  simp only [Sem.run_bind,h x (by simp),Result.andThen_ok,run_mapM_list f g r (fun y hy=>h y (by simp [hy])),Sem.run_pure,List.map_cons]

theorem run_places {t:TypeId} {ti:TI} (h:TIok P t ti) {fs:Array Field} (hd:ti.desc=.struct fs) :
    (fs.mapM fun f=>do pure (f.offset,← sizeOf f.type):Sem (Array (Nat × Nat))).run P w=.ok (fs.map fun f=>(f.offset,P.cellsOf f.type)) w:=by
  rw [Array.mapM_eq_mapM_toList]
  have:(fs.toList.mapM fun f=>(do pure (f.offset,← sizeOf f.type):Sem (Nat × Nat))).run P w=.ok (fs.toList.map fun f=>(f.offset,P.cellsOf f.type)) w:=by
   refine run_mapM_list _ _ _ fun f hf=>?_
   have hk:=h.known fs hd f hf
   obtain ⟨i,hi⟩:=Option.isSome_iff_exists.1 hk
   simp [sizeOf,typeInfo,hi,Program.cellsOf]
  rw [Sem.run_map,this]
  simp only [Result.andThen_ok]
  congr 1
  apply Array.toList_inj.1
  simp

theorem TIok.cellsOf {t:TypeId} {ti:TI} (h:TIok P t ti):P.cellsOf t=ti.size:=by
 obtain ⟨i,z,hi,hz,hs,_⟩:=h.info
 simp [Program.cellsOf,hi,hs]

theorem build_sound (hT:TOK P T) (hs:Sim cx V σ β I S N a w) {t:TypeId} {ti:TI} (ht:T t=some ti) {ps:Array (Nat × Operand)} (hV:∀ x t,x∈ps.toList→x.2=.tmp t→V t) {l:List (Nat × D)}
    (hl:σ.evP ps.toList=some l) {cs:List D} (hb:buildable T ti.desc=true) (hf:fillCells (placeE T ti.desc) ti.zero l=some cs) :
    ∃ v,(Instr.build t (ps.map fun (i,x)=>(i,a.eval x))).run P w=.ok v w∧Rel I β v (.agg cs):=by
  have h:=hT t ti ht
  obtain ⟨z,hz,hzr⟩:=h.run_zero (P:=P) w I β
  obtain ⟨hll,hrel⟩:=evP_sound hs hV hl
  have hrel':∀ (i:Nat) (x:Nat × Value) (y:Nat × D),(ps.map fun (i,x)=>(i,a.eval x)).toList[i]?=some x→l[i]?=some y→x.1=y.1∧Rel I β x.2 y.2:=by
   intro i x y hx hy
   simp only [Array.toList_map,List.getElem?_map,Option.map_eq_some_iff] at hx
   obtain ⟨u,hu,rfl⟩:=hx
   exact hrel i u y hu hy
  have hlen:(ps.map fun (i,x)=>(i,a.eval x)).toList.length=l.length:=by simp [hll]
  unfold Instr.build
  simp only [Sem.run_bind,hz,Result.andThen_ok,run_underlying h.desc]
  cases hd:ti.desc with
  | struct fs =>
   simp only [Sem.run_bind,run_places h hd,Result.andThen_ok]
   have hpl:∀ i x,placeE T ti.desc i=some x→(fs.map fun f=>(f.offset,P.cellsOf f.type))[i]?=some x:=by
    intro i x hx
    rw [hd] at hx
    simp only [placeE] at hx
    cases hfi:fs[i]? with
    | none=>rw [hfi] at hx;cases hx
    | some f =>
     rw [hfi] at hx
     simp only at hx
     cases hft:T f.type with
     | none=>rw [hft] at hx;cases hx
     | some tf =>
      rw [hft] at hx
      cases hx
      simp [hfi,(hT _ _ hft).cellsOf]
   obtain ⟨cs',hcs,hr⟩:=fill_sound (I:=I) (β:=β) hpl hlen hrel' hzr hf
   rw [hcs]
   exact ⟨_,rfl,by simpa using Rel.mkAgg hr⟩
  | array n e =>
   have hpl:∀ i x,placeE T ti.desc i=some x→(fun i=>some (i*P.cellsOf e,P.cellsOf e)) i=some x:=by
    intro i x hx
    rw [hd] at hx
    simp only [placeE] at hx
    cases hft:T e with
    | none=>rw [hft] at hx;cases hx
    | some tf =>
     rw [hft] at hx
     cases hx
     simp [(hT _ _ hft).cellsOf]
   obtain ⟨cs',hcs,hr⟩:=fill_sound (I:=I) (β:=β) hpl hlen hrel' hzr hf
   cases hft:T e with
   | none=>simp [buildable,hd,hft] at hb
   | some te =>
    have hte:=hT _ _ hft
    simp only [Sem.run_bind,hte.run_sizeOf,Result.andThen_ok]
    rw [← hte.cellsOf,hcs]
    exact ⟨_,rfl,by simpa using Rel.mkAgg hr⟩
  | _=>simp [buildable,hd] at hb

theorem spliceV_get (cs us:List Value) (off n:Nat) (h:off+us.length≤cs.length) :
    (spliceV cs off us)[n]?=if off≤n∧n<off+us.length then us[n - off]? else cs[n]?:=by
  unfold spliceV
  have ho:(cs.take off).length=off:=by simp;omega
  by_cases h1:n<off
  ·rw [List.getElem?_append_left (by omega),if_neg (by omega),List.getElem?_take,if_pos h1]
  ·rw [List.getElem?_append_right (by omega),ho]
   by_cases h2:n<off+us.length
   ·rw [if_pos ⟨by omega,h2⟩,List.getElem?_append_left (by omega)]
   ·rw [if_neg (by omega),List.getElem?_append_right (by omega),List.getElem?_drop]
    congr 1;omega

theorem Rel.of_free {β':BE} {v:Value} {d:D} (h:Rel I β v d) (hd:d.free=true):Rel I β' v d:=by
 cases h <;> first | (simp [D.free] at hd;done) | exact .tt | exact .ff | exact .bool _ | exact .int _ _ | exact .str _ | exact .nilp | exact .nils _ | exact .nilf | exact .list0 _ _ _ | (constructor <;> assumption)


theorem allFree_get:∀ {ds:List D} {j:Nat} {d:D},allFree ds=true→ds[j]?=some d→d.free=true
 | [],j,d,_,h=>by simp at h
 | e::r,j,d,hf,h=>by
  simp only [allFree] at hf
  cases he:e.free with
  | false=>rw [he] at hf;cases hf
  | true =>
   rw [he] at hf
   cases j with
   | zero=>simp at h;subst h;exact he
   | succ j=>exact allFree_get hf (by simpa using h)

structure RowsAt (I:Imm) (size:Nat) (cs:List Value) (rows:List (List D)):Prop where
 len:cs.length=rows.length*size
 row:∀ (r:Nat) (row:List D),rows[r]?=some row→row.length=size
 cell:∀ (r:Nat) (row:List D) (j:Nat) (d:D),rows[r]?=some row→row[j]?=some d→∃ v,cs[r*size+j]?=some v∧Rel I nob v d∧v.oneCell'=true

theorem RowsAt.set {size:Nat} {cs:List Value} {rows:List (List D)} (h:RowsAt I size cs rows) {i:Nat} {us:List Value} {row:List D} (hi:i<rows.length) (hr:RelC I nob us row) (hl:row.length=size) :
    RowsAt I size (spliceV cs (i*size) us) (rows.set i row):=by
  have hul:us.length=size:=hr.1.1.trans hl
  have hle:i*size+us.length≤cs.length:=by
   rw [h.len,hul]
   calc i*size+size=(i+1)*size:=by rw [Nat.add_mul,Nat.one_mul]
    _≤rows.length*size:=Nat.mul_le_mul_right _ hi
  refine ⟨?_,?_,?_⟩
  ·simp only [spliceV,List.length_append,List.length_take,List.length_drop,List.length_set,h.len] at *
   omega
  ·intro r row' hr'
   rw [List.getElem?_set] at hr'
   split at hr'
   ·simp at hr';subst hr';exact hl
   ·exact h.row r row' hr'
  ·intro r row' j d hr' hd
   rw [List.getElem?_set] at hr'
   rw [spliceV_get _ _ _ _ hle]
   split at hr'
   ·rename_i e
    subst e
    simp at hr'
    subst hr'
    have hj:j<row.length:=(List.getElem?_eq_some_iff.1 hd).1
    rw [if_pos (by omega)]
    obtain ⟨v,hv,h1,h2⟩:=hr.get hd
    exact ⟨v,by rw [← hv];congr 1;omega,h1,h2⟩
   ·rename_i e
    have hj:j<size:=by rw [← h.row r row' hr'];exact (List.getElem?_eq_some_iff.1 hd).1
    have hne:¬ (i*size≤r*size+j∧r*size+j<i*size+us.length):=by
     rw [hul]
     rcases Nat.lt_or_gt_of_ne e with hlt | hlt
     ·have:(i+1)*size≤r*size:=Nat.mul_le_mul_right _ hlt
      rw [Nat.add_mul,Nat.one_mul] at this
      omega
     ·have:(r+1)*size≤i*size:=Nat.mul_le_mul_right _ hlt
      rw [Nat.add_mul,Nat.one_mul] at this
      omega
    rw [if_neg hne]
    exact h.cell r row' j d hr' hd

theorem fillRows_sound {size : Nat} : ∀ {ps : List (Nat × Value)} {l : List (Nat × D)} {cs : Array Value} {rows rows' : List (List D)}, ps.length = l.length →
      (∀ (i:Nat) (x:Nat × Value) (y:Nat × D),ps[i]?=some x→l[i]?=some y→x.1=y.1∧Rel I β x.2 y.2)→RowsAt I size cs.toList rows→fillRows size rows l=some rows' →
      ∃ cs',Instr.fill (fun i=>some (i*size,size)) cs ps=some cs'∧RowsAt I size cs'.toList rows'∧rows'.length=rows.length
  | [],[],cs,rows,rows',_,_,hr,h=>by simp [fillRows] at h;subst h;exact ⟨cs,rfl,hr,rfl⟩
  | [],_::_,_,_,_,hl,_,_,_=>by simp at hl
  | _::_,[],_,_,_,hl,_,_,_=>by simp at hl
  | (i,v)::ps,(j,d)::l,cs,rows,rows',hl,hrel,hr,h=>by
   obtain ⟨hij,hvd⟩:=hrel 0 (i,v) (j,d) rfl rfl
   simp only at hij hvd
   subst hij
   simp only [fillRows] at h
   cases hc:cellsOf d with
   | none=>rw [hc] at h;simp at h
   | some es =>
    rw [hc] at h
    simp only at h
    split at h
    ·rename_i h1 h2 h3
     have h1:=Nat.eq_of_beq_eq_true h1
     have h3:i<rows.length:=by simpa [Nat.blt_eq] using h3
     have hcv:=hvd.cells hc
     have hcn:RelC I nob v.cells.toList es:=⟨⟨hcv.1.1,fun j v d hv hd=>(hcv.1.2 j v d hv hd).of_free (allFree_get h2 hd)⟩,hcv.2⟩
     have hsz:v.cells.size=size:=by have:=hcv.1.1;simp at this;omega
     have hle:i*size+size≤cs.size:=by
      have:=hr.len
      simp at this
      rw [this]
      calc i*size+size=(i+1)*size:=by rw [Nat.add_mul,Nat.one_mul]
       _≤rows.length*size:=Nat.mul_le_mul_right _ h3
     have hstep:=fill_step v cs (i*size) (by omega)
     obtain ⟨cs',hf,hr',hlen⟩:=fillRows_sound (cs:=(spliceV cs.toList (i*size) v.cells.toList).toArray) (by simpa using hl) (fun i x y hx hy=>hrel (i+1) x y (by simpa using hx) (by simpa using hy))
      (by simpa using hr.set h3 hcn h1) h
     refine ⟨cs',?_,hr',by simpa using hlen⟩
     unfold Instr.fill
     have hb:(decide (v.cells.size≠size) || decide (i*size+v.cells.size > cs.size))=false:=by
      simp;omega
     simp only [hb,Bool.false_eq_true,if_false]
     rw [hstep]
     exact hf
    ·cases h

theorem zero_rows {ti:TI} {z:Value} (hz:RelC I β z.cells.toList ti.zero) (hzl:ti.zero.length=ti.size) (hf:allFree ti.zero=true) (n:Nat) :
    RowsAt I ti.size ((Array.range (n*ti.size)).map (z.cells[· % z.cells.size]!)).toList (List.replicate n ti.zero):=by
  have hzs:z.cells.size=ti.size:=by have:=hz.1.1;simp at this;omega
  refine ⟨by simp,?_,?_⟩
  ·intro r row hr
   rw [List.getElem?_replicate] at hr
   split at hr
   ·cases hr;exact hzl
   ·cases hr
  ·intro r row j d hr hd
   rw [List.getElem?_replicate] at hr
   split at hr
   ·rename_i hlt
    cases hr
    have hj:j<ti.zero.length:=(List.getElem?_eq_some_iff.1 hd).1
    obtain ⟨v,hv,h1,h2⟩:=hz.get hd
    have hin:r*ti.size+j<n*ti.size:=by
     calc r*ti.size+j<r*ti.size+ti.size:=by omega
      _=(r+1)*ti.size:=by rw [Nat.add_mul,Nat.one_mul]
      _≤n*ti.size:=Nat.mul_le_mul_right _ hlt
    refine ⟨v,?_,h1.of_free (allFree_get hf hd),h2⟩
    have hm:(r*ti.size+j) % z.cells.size=j:=by rw [hzs,Nat.mul_comm,Nat.mul_add_mod];exact Nat.mod_eq_of_lt (by omega)
    have hvv:z.cells[j]! = v:=by
     have:z.cells[j]?=some v:=by simpa using hv
     simp [Array.getElem!_eq_getD,Array.getD_eq_getD_getElem?,this]
    simp [hin,hm,hvv]
   ·cases hr

theorem buildSlice_at (hT:TOK P T) {t:TypeId} {ti te:TI} (ht:T t=some ti) {e:TypeId} (hd:ti.desc=.slice e) (hte:TIok P e te) {len:Nat} {ps:Array (Nat × Operand)}
    {l:List (Nat × D)} (hl:l.length=ps.toList.length∧∀ (i:Nat) (x:Nat × Operand) (y:Nat × D),ps.toList[i]?=some x→l[i]?=some y→x.1=y.1∧Rel I β (a.eval x.2) y.2) (hpos:0<te.size) (hmax:len*te.size≤16777216) (hfree:allFree te.zero=true) {rows:List (List D)}
    (hf:fillRows te.size (List.replicate len te.zero) l=some rows) :
    ∃ cs:Array Value,(Instr.buildSlice t len (ps.map fun (i,x)=>(i,a.eval x))).run P w=.ok (.slice (some ⟨w.heap.size,0,none⟩) len len) (w.alloc (.cells cs e))∧RowsAt I te.size cs.toList rows∧rows.length=len:=by
  have h:=hT t ti ht
  obtain ⟨z,hz,hzr⟩:=hte.run_zero (P:=P) w I β
  obtain ⟨hll,hrel⟩:=hl
  have hrel':∀ (i:Nat) (x:Nat × Value) (y:Nat × D),(ps.map fun (i,x)=>(i,a.eval x)).toList[i]?=some x→l[i]?=some y→x.1=y.1∧Rel I β x.2 y.2:=by
   intro i x y hx hy
   simp only [Array.toList_map,List.getElem?_map,Option.map_eq_some_iff] at hx
   obtain ⟨u,hu,rfl⟩:=hx
   exact hrel i u y hu hy
  have hlen:(ps.map fun (i,x)=>(i,a.eval x)).toList.length=l.length:=by simp [hll]
  have hbig:¬ len*te.size > 2^24:=by omega
  obtain ⟨cs,hc,hr,hrl⟩:=fillRows_sound hlen hrel' (zero_rows hzr hte.zlen hfree len) hf
  refine ⟨cs,?_,hr,by simpa using hrl⟩
  unfold Instr.buildSlice
  simp only [Sem.run_bind,run_underlying h.desc,hd,Result.andThen_ok,hte.run_sizeOf,if_neg hbig,Sem.run_ite,Sem.run_pure]
  by_cases h0:len*te.size=0
  · have hlen0:len=0:=by
      rcases Nat.mul_eq_zero.1 h0 with h | h
      ·exact h
      ·omega
    subst hlen0
    simp only [Nat.zero_mul,if_true]
    have e0:∀ (f g:Nat→Value),(Array.range 0).map f=(Array.range 0).map g:=fun f g=>by simp
    simp only [Nat.zero_mul] at hc
    rw [e0 _ (z.cells[· % z.cells.size]!),hc]
    rfl
  ·simp only [if_neg h0,hz,Result.andThen_ok]
   rw [hc]
   rfl

theorem buildSlice_sound (hT:TOK P T) (hs:Sim cx V σ β I S N a w) {t:TypeId} {ti te:TI} (ht:T t=some ti) {e:TypeId} (hd:ti.desc=.slice e) (hte:TIok P e te) {len:Nat} {ps:Array (Nat × Operand)}
    (hV:∀ x t,x∈ps.toList→x.2=.tmp t→V t) {l:List (Nat × D)} (hl:σ.evP ps.toList=some l) (hpos:0<te.size) (hmax:len*te.size≤16777216) (hfree:allFree te.zero=true) {rows:List (List D)}
    (hf:fillRows te.size (List.replicate len te.zero) l=some rows) :
    ∃ cs:Array Value,(Instr.buildSlice t len (ps.map fun (i,x)=>(i,a.eval x))).run P w=.ok (.slice (some ⟨w.heap.size,0,none⟩) len len) (w.alloc (.cells cs e))∧RowsAt I te.size cs.toList rows∧rows.length=len :=
  buildSlice_at hT ht hd hte (evP_sound hs hV hl) hpos hmax hfree hf

theorem makeSlice_sound (hT:TOK P T) {t:TypeId} {ti te:TI} (ht:T t=some ti) {e:TypeId} (hd:ti.desc=.slice e) (hte:TIok P e te) {n:Int} (h0:0≤n) (hb:te.bytes*n≤mostBytes)
    (hn:n≤9223372036854775807) (hfree:allFree te.zero=true) :
    ∃ cs:Array Value,(Instr.makeSlice t (.int .i64 n) (.int .i64 n)).run P w=.ok (.slice (some ⟨w.heap.size,0,none⟩) n.toNat n.toNat) (w.alloc (.cells cs e))∧RowsAt I te.size cs.toList (List.replicate n.toNat te.zero):=by
  have h:=hT t ti ht
  obtain ⟨z,hz,hzr⟩:=hte.run_zero (P:=P) w I nob
  obtain ⟨i,hi,his,hib,_⟩:=hte.run_typeInfo (P:=P) w
  refine ⟨_,?_,zero_rows hzr hte.zlen hfree n.toNat⟩
  have hw:IntKind.i64.wrap n=n:=by rw [IntKind.wrap_i64];omega
  have hnl:¬ n<0:=by omega
  have hnb:¬ (i.bytes:Int)*n > 2^48:=by rw [hib];unfold mostBytes at hb;omega
  unfold Instr.makeSlice
  simp only [Sem.run_bind,run_underlying h.desc,hd,Result.andThen_ok,asInt,asIntOf,Sem.run_pure,hi,hw,hnl,hnb,decide_false,Bool.or_self,Bool.false_eq_true,Int.lt_irrefl,gt_iff_lt,if_false,hte.run_sizeOf]
  have hnb':¬ (2:Int)^48<(i.bytes:Int)*n:=by omega
  simp only [Sem.run_bind,run_askRoom,Result.andThen_ok,Sem.run_ite]
  by_cases hz0:n.toNat*te.size=0
  ·have e0:∀ (f g:Nat→Value),(Array.range 0).map f=(Array.range 0).map g:=fun f g=>by simp
   simp only [hz0,if_true,Sem.run_pure,Result.andThen_ok]
   rw [e0 _ (z.cells[· % z.cells.size]!)]
   rfl
  ·simp only [if_neg hz0,hz,Result.andThen_ok,Sem.run_pure]
   rfl

end
end Go.V

namespace Go.V
open Go.RowKit

open Classical in
noncomputable def plusB (L:List Nat) (β:BE) (w:World) (I:Imm):Imm:=fun B off =>
 if ∃ i b,i∈L∧β i=some b∧b.R=some B then cellM w B off else I B off

section
variable {P:Program} {cx:Cx} {V:Nat→Prop} {σ:St} {β:BE} {I:Imm} {S:Nat→Prop} {N:Nat} {a:Act} {w:World}

theorem plusB_le (h:Agree I w) (L:List Nat) (β:BE):I.le (plusB L β w I):=fun B off v hv=>by
 unfold plusB
 split
 ·exact h B off v hv
 ·exact hv

theorem plusB_agree (h:Agree I w) (L:List Nat) (β:BE):Agree (plusB L β w I) w:=fun B off v hv=>by
 unfold plusB at hv
 split at hv
 ·exact hv
 ·exact h B off v hv

theorem plusB_in {L:List Nat} {i:Nat} {b:BI} {R:Nat} (hi:i∈L) (hb:β i=some b) (hR:b.R=some R) (off:Nat):plusB L β w I R off=cellM w R off:=by
 unfold plusB
 rw [if_pos ⟨i,b,hi,hb,hR⟩]

theorem mapO_sound {f:D→Option D}:∀ {ds es:List D},mapO f ds=some es→es.length=ds.length∧∀ (i:Nat) (e:D),es[i]?=some e→∃ d,ds[i]?=some d∧f d=some e
 | [],es,h=>by simp [mapO] at h;subst h;exact ⟨rfl,fun i e h=>by simp at h⟩
 | d::r,es,h=>by
  simp only [mapO] at h
  cases h1:f d with
  | none=>rw [h1] at h;cases h
  | some x =>
   rw [h1] at h
   cases h2:mapO f r with
   | none=>rw [h2] at h;cases h
   | some l =>
    rw [h2] at h
    cases h
    obtain ⟨hl,hr⟩:=mapO_sound h2
    refine ⟨by simp [hl],fun i e he=>?_⟩
    cases i with
    | zero=>simp at he;subst he;exact ⟨d,rfl,h1⟩
    | succ i=>exact hr i e (by simpa using he)

theorem mem_flatMap_get {l:List D} {f:D→List Nat} {j:Nat} {d:D} (h:l[j]?=some d) {i:Nat} (hi:i∈f d):i∈l.flatMap f :=
 List.mem_flatMap.2 ⟨d,List.mem_of_getElem? h,hi⟩

theorem reify_sound {bs:List Box} (hagree:Agree I w) (hbx:∀ i b,β i=some b→∃ box,bs[i]?=some box∧BoxRel I β w b box) (L:List Nat) :
    ∀ (n:Nat) {d d':D} {v:Value},Rel I β v d→reify bs n d=some d'→(∀ i,i∈touch bs n d→i∈L)→Rel (plusB L β w I) nob v d':=by
  intro n
  induction n with
  | zero=>intro d d' v _ h;cases h
  | succ n ih =>
   intro d d' v hr h hL
   have hle:=plusB_le hagree L β
   have list:∀ {ds es:List D} {vs:List Value},RelL I β vs ds→mapO (reify bs n) ds=some es→(∀ i,i∈ds.flatMap (touch bs n)→i∈L)→RelL (plusB L β w I) nob vs es:=by
    intro ds es vs hrl hm hLL
    obtain ⟨hl,hg⟩:=mapO_sound hm
    refine ⟨by rw [hl];exact hrl.1,fun i v e hv he=>?_⟩
    obtain ⟨d,hd,hf⟩:=hg i e he
    exact ih (hrl.2 i v d hv hd) hf fun j hj=>hLL j (mem_flatMap_get hd hj)
   cases d with
   | und | skp | yld | sit | asl | gmap=>cases h
   | rloc=>cases h
   | gp=>cases h;cases hr;exact .gp _ _
   | tt=>cases h;cases hr;exact .bool true
   | ff=>cases h;cases hr;exact .bool false
   | agg cs =>
    simp only [reify] at h
    cases hm:mapO (reify bs n) cs with
    | none=>rw [hm] at h;cases h
    | some l =>
     rw [hm] at h
     cases h
     obtain ⟨xs,rfl,hxs⟩:=hr.agg_inv
     have:=list hxs.1 hm (fun i hi=>hL i (by simpa [touch] using hi))
     exact .agg _ _ this.1 hxs.2 this.2
   | tup cs =>
    simp only [reify] at h
    cases hm:mapO (reify bs n) cs with
    | none=>rw [hm] at h;cases h
    | some l =>
     rw [hm] at h
     cases h
     obtain ⟨xs,rfl,hxs⟩:=hr.tup_inv
     have:=list hxs hm (fun i hi=>hL i (by simpa [touch] using hi))
     exact .tup _ _ this.1 this.2
   | clo fn fs cs =>
    simp only [reify] at h
    cases hm:mapO (reify bs n) fs with
    | none=>rw [hm] at h;cases h
    | some l =>
     rw [hm] at h
     cases hm':mapO (reify bs n) cs with
     | none=>rw [hm'] at h;cases h
     | some l' =>
      rw [hm'] at h
      cases h
      cases hr with
      | clo _ vs us _ _ hl1 hl2 h1 h2 =>
       have e1:=list ⟨hl1,h1⟩ hm (fun i hi=>hL i (by simp only [touch,List.mem_append];exact .inl hi))
       have e2:=list ⟨hl2,h2⟩ hm' (fun i hi=>hL i (by simp only [touch,List.mem_append];exact .inr hi))
       exact .clo _ _ _ _ _ e1.1 e2.1 e1.2 e2.2
   | loc i off | aloc i off =>
    simp only [reify] at h
    cases hb:bs[i]? with
    | none=>rw [hb] at h;cases h
    | some box =>
     rw [hb] at h
     cases box with
     | rows=>cases h
     | map=>cases h
     | siter=>cases h
     | miter=>cases h
     | flat fz cells =>
      simp only at h
      cases hm:mapO (reify bs n) (cells.drop off) with
      | none=>rw [hm] at h;cases h
      | some l =>
       rw [hm] at h
       cases h
       have main:∀ b R,β i=some b→b.R=some R→Rel (plusB L β w I) nob (.pointer (some ⟨R,off,none⟩)) (.ro l):=by
        intro b R hβ hR
        obtain ⟨box',hbx',hbr⟩:=hbx i b hβ
        rw [hb] at hbx';cases hbx'
        obtain ⟨_,R',c,t,hR',hh,hrc⟩:=hbr
        rw [hR] at hR';cases hR'
        have hiL:i∈L:=hL i (by simp [touch])
        have hdr:=hrc.drop off
        have hcs:=list hdr.1 hm (fun j hj=>hL j (by
         simp only [touch,hb,List.mem_cons]
         obtain ⟨d,hd,hj⟩:=List.mem_flatMap.1 hj
         exact .inr (List.mem_flatMap.2 ⟨d,hd,hj⟩)))
        have hcell:∀ j,j<l.length→(c.toList.drop off)[j]?=some ((c.toList.drop off).getD j undef):=by
         intro j hj
         have:j<(c.toList.drop off).length:=by rw [hcs.1];exact hj
         rw [List.getD_eq_getElem?_getD,List.getElem?_eq_getElem this];rfl
        refine .ro R off l (fun j=>(c.toList.drop off).getD j undef) (fun j hj=>?_) (fun j hj=>?_) (fun j d hd=>?_)
        ·rw [plusB_in hiL hβ hR];exact cellM_of_cells hh (by rw [← hcell j hj];simp) (hdr.2 _ (List.mem_of_getElem? (hcell j hj)))
        ·exact hdr.2 _ (List.mem_of_getElem? (hcell j hj))
        ·exact hcs.2 j _ d (hcell j ((List.getElem?_eq_some_iff.1 hd).1)) hd
       first
        | (cases hr with | loc _ _ b R hβ _ hR=>exact main b R hβ hR)
        | (cases hr with | aloc _ _ b R hβ _ hR=>exact main b R hβ hR)
   | nils=>cases h;cases hr;exact .list0 _ _ _
   | nilm=>cases h;cases hr;exact .nilm
   | mro ks vs=>cases h;cases hr with | mro R es _ _ hI hb hl hm h1 h2=>exact .mro R es ks vs (hle _ _ _ hI) hb hl hm (fun i e d he hd=>(h1 i e d he hd).mono hle (BE.le_refl _)) fun i e d he hd=>(h2 i e d he hd).mono hle (BE.le_refl _)
   | mloc i =>
    simp only [reify] at h
    cases hb:bs[i]? with
    | none=>rw [hb] at h;cases h
    | some box =>
     rw [hb] at h
     cases box with
     | flat=>cases h
     | rows=>cases h
     | siter=>cases h
     | miter=>cases h
     | map fz ks vs =>
      cases h
      cases hr with
      | mloc _ b R hβ _ hR =>
       obtain ⟨box',hbx',hbr⟩:=hbx i b hβ
       rw [hb] at hbx';cases hbx'
       obtain ⟨_,R',es,clock,hR',hh,_,hm⟩:=hbr
       rw [hR] at hR';cases hR'
       have hiL:i∈L:=hL i (by simp [touch])
       refine .mro R es.toList ks vs ?_ hm.born hm.kl hm.vl (fun i e d he hd=>(hm.k i e d he hd).mono hle (BE.le_refl _)) fun i e d he hd=>(hm.v i e d he hd).mono hle (BE.le_refl _)
       rw [plusB_in hiL hβ hR,cellM_map hh]
   | sl i g off len =>
    simp only [reify] at h
    cases hb:bs[i]? with
    | none=>rw [hb] at h;cases h
    | some box =>
     rw [hb] at h
     cases box with
     | flat=>cases h
     | map=>cases h
     | siter=>cases h
     | miter=>cases h
     | rows fz g' sz rs =>
      simp only at h
      cases hgg:Nat.beq g g' with
      | false=>rw [hgg] at h;cases h
      | true =>
       rw [hgg] at h
       cases h
       have hgg:=Nat.eq_of_beq_eq_true hgg
       cases hr with
       | mstale _ _ _ _ _ _ b hβ _ hg =>
        obtain ⟨box',hbx',hbr⟩:=hbx i b hβ
        rw [hb] at hbx';cases hbx'
        obtain ⟨_,h2,_⟩:=hbr
        omega
       | sl A c _ _ _ _ b hβ _ hg hc hl hn ha =>
        obtain ⟨box',hbx',hbr⟩:=hbx i b hβ
        rw [hb] at hbx';cases hbx'
        obtain ⟨_,_,hsz,hnr,hrow,hcap,hm⟩:=hbr
        have hiL:i∈L:=hL i (by simp [touch])
        have hlen:((rs.drop off).take len).length=len:=by simp;omega
        rcases Nat.eq_zero_or_pos len with h0 | h0
        ·subst h0
         have:(rs.drop off).take 0=[]:=rfl
         rw [this]
         exact .list0 _ _ _
        ·obtain ⟨R,hR,rfl⟩:=ha (by omega)
         rw [hR] at hm
         obtain ⟨cc,t,hh,hcs,hd⟩:=hm
         have hget:∀ (r:Nat) (row:List D),((rs.drop off).take len)[r]?=some row→rs[off+r]?=some row:=by
          intro r row hr
          rw [List.getElem?_take] at hr
          split at hr
          ·simpa using hr
          ·cases hr
         have hin:∀ r,r<len→∃ row,rs[off+r]?=some row∧row.length=sz:=by
          intro r hr
          have:off+r<rs.length:=by omega
          exact ⟨_,List.getElem?_eq_getElem this,hrow _ _ (List.getElem?_eq_getElem this)⟩
         have hcell:∀ r j,r<len→j<sz→∃ v,cc[(off+r)*sz+j]?=some v∧v.oneCell'=true:=by
          intro r j hr hj
          obtain ⟨row,h1,h2⟩:=hin r hr
          obtain ⟨v,h3,_,h5⟩:=hd (off+r) row j _ h1 (List.getElem?_eq_getElem (by omega))
          exact ⟨v,h3,h5⟩
         have:=Rel.list (I:=plusB L β w I) (β:=nob) R (off*b.sz) c sz ((rs.drop off).take len) (fun r j=>cc.getD ((off+r)*sz+j) undef) (by omega) (fun r row hr=>hrow _ _ (hget r row hr))
          (fun r j hr hj=>by
           obtain ⟨v,h3,h5⟩:=hcell r j (by omega) hj
           rw [plusB_in hiL hβ hR,hsz,← Nat.add_assoc,← Nat.add_mul]
           refine cellM_of_cells hh ?_ (by simpa [Array.getD_eq_getD_getElem?,h3] using h5)
           rw [h3]
           simp [Array.getD_eq_getD_getElem?,h3])
          (fun r j hr hj=>by
           obtain ⟨v,h3,h5⟩:=hcell r j (by omega) hj
           simpa [Array.getD_eq_getD_getElem?,h3] using h5)
          (fun r row j d hr hj=>by
           obtain ⟨v,h3,h4,_⟩:=hd (off+r) row j d (hget r row hr) hj
           simpa [Array.getD_eq_getD_getElem?,h3] using h4.mono hle (BE.le_refl _))
         rw [hlen] at this
         exact this
   | bool b=>cases h;exact (hr.of_free rfl).mono hle (BE.le_refl _)
   | int k m=>cases h;exact (hr.of_free rfl).mono hle (BE.le_refl _)
   | str s=>cases h;exact (hr.of_free rfl).mono hle (BE.le_refl _)
   | nilp=>cases h;exact (hr.of_free rfl).mono hle (BE.le_refl _)
   | ro cs=>cases h;exact (hr.of_free rfl).mono hle (BE.le_refl _)
   | list sz rows=>cases h;exact (hr.of_free rfl).mono hle (BE.le_refl _)
   | nilf=>cases h;exact (hr.of_free rfl).mono hle (BE.le_refl _)

theorem reifyL_sound {bs:List Box} (hagree:Agree I w) (hbx:∀ i b,β i=some b→∃ box,bs[i]?=some box∧BoxRel I β w b box) {ds es:List D} {vs:List Value} (hr:RelL I β vs ds)
    (h:reifyL bs ds=some es):RelL (plusB (ds.flatMap (touch bs fuel)) β w I) nob vs es:=by
  obtain ⟨hl,hg⟩:=mapO_sound h
  refine ⟨by rw [hl];exact hr.1,fun i v e hv he=>?_⟩
  obtain ⟨d,hd,hf⟩:=hg i e he
  exact reify_sound hagree hbx _ fuel (hr.2 i v d hv hd) hf fun j hj=>mem_flatMap_get hd hj

/-! ### A call -/

def FW (F:Fence):Prop:=F=Fence.wide∨∃ l,F=Fence.wide.inRound l

theorem FW.fn {F:Fence} (h:FW F) (f:FuncId):F.fn f:=by
 rcases h with rfl | ⟨l,rfl⟩
 ·trivial
 ·trivial
theorem FW.depth {F:Fence} (h:FW F):F.depth=none:=by
 rcases h with rfl | ⟨l,rfl⟩
 ·rfl
 ·rfl
theorem FW.calls {F:Fence} (h:FW F) {n:Nat} {f:FuncId} {args:Array Value} {R:Ending→World→Prop} (hc:Calls P f args w R):CallsIn F n P f args w R:=by
 rcases h with rfl | ⟨l,rfl⟩
 ·exact callsIn_wide.2 hc
 ·exact (callsIn_wide (n:=n)).2 hc

theorem wp_value {F:Fence} (hF:FW F) {n:Nat} {o:Oper} {next:Act→World→Prop} {Q:Exit→Act→World→Prop} (hd:∀ c,o.op≠.defer c) {v:Value} {w':World}
    (hr:(execOp a.eval o).run P w=.ok (.value v) w') (h:next (a.put o.dst v) w'):o.wpIn F n P a w next Q:=by
  refine ⟨fun f _=>hF.fn f,?_⟩
  rw [Oper.semAt_eq _ _ _ hd,hr]
  exact h

theorem wp_skipped {F:Fence} (hF:FW F) {n:Nat} {o:Oper} {next:Act→World→Prop} {Q:Exit→Act→World→Prop} (hd:∀ c,o.op≠.defer c) {w':World}
    (hr:(execOp a.eval o).run P w=.ok .skip w') (h:next (a.put o.dst undef) w'):o.wpIn F n P a w next Q:=by
  refine ⟨fun f _=>hF.fn f,?_⟩
  rw [Oper.semAt_eq _ _ _ hd,hr]
  exact h

theorem wp_enter {F:Fence} (hF:FW F) {n:Nat} {o:Oper} {next:Act→World→Prop} {Q:Exit→Act→World→Prop} (hd:∀ c,o.op≠.defer c) {f:FuncId} {args:Array Value}
    (hr:(execOp a.eval o).run P w=.ok (.enter f args) w) {R:Value→World→Prop} (hc:Calls P f args w fun e w'=>∃ v,e=.returned v∧R v w') (h:∀ v w',R v w'→next (a.put o.dst v) w'):o.wpIn F n P a w next Q:=by
  refine ⟨fun f _=>hF.fn f,?_⟩
  rw [Oper.semAt_eq _ _ _ hd,hr]
  refine ⟨fun hh=>absurd hh (by rw [hF.depth];simp),(hF.calls hc).mono ?_⟩
  rintro e w' ⟨v,rfl,hR⟩
  exact h v w' hR

theorem run_callValue {o:Oper} {c:Call} {f:Operand} (ho:o.op=.call c) (hc:c.callee=.value f) {fk:FuncId} {vs us:Array Value} (hv:a.eval f=.func (.func fk) vs us) (he:Enters P fk) :
    (execOp a.eval o).run P w=.ok (.enter fk ((vs++c.args.map a.eval)++us)) w:=by
  unfold execOp
  simp only [ho,resolve,hc,hv,Deferred.ofValue,Sem.run_bind,Sem.run_pure,Result.andThen_ok,invoke]
  exact he _ _

end
end Go.V
