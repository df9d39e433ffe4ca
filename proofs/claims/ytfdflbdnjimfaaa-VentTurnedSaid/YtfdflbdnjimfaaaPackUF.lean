/- Maps: made, read, written; Ranges over maps; A call that is handed boxes; Only the first boxes are kept. No condition. -/
import Derived.MapKept
import Derived.Test.YtfdflbdnjimfaaaPackUE
import Derived.Test.YtfdflbdnjimfaaaPackUD

namespace Go.V
open Go.RowKit

section
variable {P:Program} [Glb] {T:Nat→Option TI} {cx:Cx} {V:Nat→Prop} {σ:St} {β:BE} {I:Imm} {S:Nat→Prop} {N:Nat} {a:Act} {w:World}

omit [Glb] in
theorem eqL_true:∀ {xs ys:List D},eqL xs ys=some true→xs=ys
 | [],[],_=>rfl
 | [],_::_,h=>by cases h
 | _::_,[],h=>by cases h
 | x::xs,y::ys,h=>by
  simp only [eqL] at h
  cases hd:eqD x y with
  | none=>rw [hd] at h;cases h
  | some a =>
   rw [hd] at h
   cases hl:eqL xs ys with
   | none=>rw [hl] at h;cases h
   | some b =>
    rw [hl] at h
    have hab:a=true∧b=true:=by cases a <;> cases b <;> simp at h ⊢
    obtain ⟨rfl,rfl⟩:=hab
    have:=eqL_true hl
    subst this
    congr 1
    cases x with
    | int k m =>
     cases y with
     | int k' m' =>
      simp only [eqD] at hd
      cases hs:same k k' with
      | false=>rw [hs] at hd;cases hd
      | true =>
       rw [hs] at hd
       obtain rfl:=same_eq hs
       have:m=m':=by simpa using hd
       rw [this]
     | _=>cases hd
    | _=>cases hd
omit [Glb] in
theorem eqL_self_rel:∀ {xs ys:List D} {b:Bool},eqL xs ys=some b→(∀ x∈xs,∃ k m,x=.int k m)∧∀ y∈ys,∃ k m,y=.int k m
 | [],[],_,_=>⟨fun x h=>(by cases h),fun x h=>(by cases h)⟩
 | [],_::_,_,h=>by cases h
 | _::_,[],_,h=>by cases h
 | x::xs,y::ys,b,h=>by
  simp only [eqL] at h
  cases hd:eqD x y with
  | none=>rw [hd] at h;cases h
  | some a =>
   rw [hd] at h
   cases hl:eqL xs ys with
   | none=>rw [hl] at h;cases h
   | some b =>
    obtain ⟨h1,h2⟩:=eqL_self_rel hl
    have hxy:(∃ k m,x=.int k m)∧∃ k m,y=.int k m:=by
     cases x with
     | int k m =>
      cases y with
      | int k' m'=>exact ⟨⟨k,m,rfl⟩,k',m',rfl⟩
      | _=>cases hd
     | _=>cases hd
    exact ⟨fun z hz=>(List.mem_cons.1 hz).elim (fun e=>e ▸ hxy.1) (h1 z),fun z hz=>(List.mem_cons.1 hz).elim (fun e=>e ▸ hxy.2) (h2 z)⟩
omit [Glb] in
theorem rel_ints {I':Imm} {β β':BE}:∀ {ds:List D} {vs us:List Value},(∀ d∈ds,∃ k m,d=.int k m)→RelL I β vs ds→RelL I' β' us ds→vs=us
 | [],vs,us,_,h,h'=>by rw [h.nil_inv,h'.nil_inv]
 | d::ds,vs,us,hd,h,h'=>by
  obtain ⟨v,vs',rfl,hv,h2⟩:=h.cons_inv
  obtain ⟨u,us',rfl,hu,h2'⟩:=h'.cons_inv
  obtain ⟨k,m,rfl⟩:=hd d (by simp)
  have:=rel_ints (fun x hx=>hd x (by simp [hx])) h2 h2'
  rw [hv.int_inv,hu.int_inv,this]
omit [Glb] in
theorem rel_ints_mono {I':Imm} {β β':BE}:∀ {ds:List D} {vs:List Value},(∀ d∈ds,∃ k m,d=.int k m)→RelL I β vs ds→RelL I' β' vs ds
 | [],vs,_,h=>by rw [h.nil_inv];exact .nil
 | d::ds,vs,hd,h=>by
  obtain ⟨v,vs',rfl,hv,h2⟩:=h.cons_inv
  obtain ⟨k,m,rfl⟩:=hd d (by simp)
  rw [hv.int_inv]
  exact RelL.cons (.int _ _) (rel_ints_mono (fun x hx=>hd x (by simp [hx])) h2)

omit [Glb] in
theorem allInt_mem:∀ {xs:List D},allInt xs=true→∀ x∈xs,∃ k m,x=.int k m
 | [],_,x,h=>by cases h
 | d::r,h,x,hx=>by
  cases d with
  | int k m =>
   rcases List.mem_cons.1 hx with rfl | hx
   ·exact ⟨k,m,rfl⟩
   ·exact allInt_mem (xs:=r) h x hx
  | _=>cases h
omit [Glb] in
theorem keyOK_agg {tk:TI} {xs:List D} (h:keyOK tk (.agg xs)=true):tk.eqs=true∧xs.length=tk.size∧∀ x∈xs,∃ k m,x=.int k m:=by
 simp only [keyOK] at h
 split at h
 ·rename_i h1 h2 h3
  exact ⟨h1,Nat.eq_of_beq_eq_true h2,allInt_mem h⟩
 ·cases h
omit [Glb] in
theorem keyOK_zero {tk:TI} {xs:List D} (h:keyOK tk (.agg xs)=true):allInt tk.zero=true:=by
 simp only [keyOK] at h
 split at h
 ·rename_i h1 h2 h3
  exact h3
 ·cases h

omit [Glb] in
theorem eqKD_sound {kt:TypeId} {tk:TI} (hk:TIok P kt tk) {key x:D} (hok:keyOK tk key=true) {b:Bool} (h:eqKD key x=some b) {kv xv:Value} (hkv:Rel I β kv key) {β':BE} (hxv:Rel I β' xv x) :
    (b=true→xv=kv)∧((∃ q,tk.desc=.int q∧Instr.sameNow (.int q) kv xv=some b)∨(∃ fs,tk.desc=.struct fs)∧(Op.equal kt kv xv).run P w=.ok b w):=by
  cases key with
  | int q n =>
   simp only [keyOK] at hok
   cases hd:tk.desc with
   | int q0 =>
    cases x with
    | int q' m =>
     simp only [eqKD] at h
     cases hs:same q q' with
     | false=>rw [hs] at h;cases h
     | true =>
      rw [hs] at h
      cases h
      obtain rfl:=same_eq hs
      rw [hkv.int_inv,hxv.int_inv]
      refine ⟨fun e=>?_,.inl ⟨q0,rfl,by simp [Instr.sameNow]⟩⟩
      have:n=m:=by simpa using e
      rw [this]
    | _=>cases h
   | _=>rw [hd] at hok;cases hok
  | agg xs =>
   obtain ⟨heq,hlen,_⟩:=keyOK_agg hok
   cases x with
   | agg ys =>
    have h:eqL xs ys=some b:=h
    obtain ⟨cs,rfl,hcs⟩:=hkv.agg_inv
    obtain ⟨cs',rfl,hcs'⟩:=hxv.agg_inv
    refine ⟨fun e=>?_,.inr ⟨hk.kfn heq,hk.keq heq w cs cs' b (hcs.1.1.trans hlen) (eqL_eqV hcs.1 (rel_ints_mono (eqL_self_rel h).2 hcs'.1) (eqL_eqLz (keyOK_zero hok) (hk.zlen.trans hlen.symm) h))⟩⟩
    subst e
    have hxy:=eqL_true h
    subst hxy
    have:=rel_ints (eqL_self_rel h).1 hcs'.1 hcs.1
    congr 1
    exact Array.toList_inj.1 this
   | _=>cases h
  | _=>cases hok

omit [Glb] in
theorem findKey_sound {kt:TypeId} {tk:TI} (hk:TIok P kt tk) {kv:Value} {key:D} (hok:keyOK tk key=true) (hkv:Rel I β kv key) (es:List MapEntry) (ks:List D) (o:Option Nat) (hl:es.length=ks.length)
    (hr:∀ (i:Nat) (e:MapEntry) (d:D),es[i]?=some e→ks[i]?=some d→Rel I nob e.key d) (h:findK key ks=some o) :
    match o with
    | none=>(Instr.findKey kt kv es).run P w=.ok none w
    | some i=>∃ e,es[i]?=some e∧(Instr.findKey kt kv es).run P w=.ok (some (i,e.val)) w∧e.key=kv:=by
  -- by looks
  have now:∀ (q:IntKind),tk.desc=.int q→∀ (es:List MapEntry) (ks:List D) (o:Option Nat) (n:Nat),es.length=ks.length→(∀ (i:Nat) (e:MapEntry) (d:D),es[i]?=some e→ks[i]?=some d→Rel I nob e.key d)→findK key ks=some o →
      match o with
      | none=>Instr.findNow (.int q) kv es n=some none
      | some i=>∃ e,es[i]?=some e∧Instr.findNow (.int q) kv es n=some (some (n+i,e.val))∧e.key=kv:=by
    intro q hq es
    induction es with
    | nil =>
     intro ks o n hl hr h
     have:ks=[]:=List.eq_nil_of_length_eq_zero (by simpa using hl.symm)
     subst this
     cases h
     rfl
    | cons e es ih =>
     intro ks o n hl hr h
     cases ks with
     | nil=>simp at hl
     | cons x ks =>
      simp only [findK] at h
      cases hb:eqKD key x with
      | none=>rw [hb] at h;cases h
      | some b =>
       rw [hb] at h
       obtain ⟨h1,h2⟩:=eqKD_sound (w:=w) hk hok hb hkv (hr 0 e x rfl rfl)
       rcases h2 with ⟨q',hq',h2⟩ | ⟨⟨fs,hfs⟩,_⟩
       ·rw [hq] at hq';cases hq'
        cases b with
        | true =>
         cases h
         exact ⟨e,rfl,by simp [Instr.findNow,h2],h1 rfl⟩
        | false =>
         simp only at h
         cases hf:findK key ks with
         | none=>rw [hf] at h;cases h
         | some o' =>
          rw [hf] at h
          have ih:=ih ks o' (n+1) (by simpa using hl) (fun i e' d he' hd=>hr (i+1) e' d (by simpa using he') (by simpa using hd)) hf
          have hstep:Instr.findNow (.int q) kv (e::es) n=Instr.findNow (.int q) kv es (n+1):=by
           simp [Instr.findNow,h2]
          cases o' with
          | none=>cases h;rw [hstep];exact ih
          | some i =>
           cases h
           obtain ⟨e',h3,h4,h5⟩:=ih
           exact ⟨e',by simpa using h3,by rw [hstep,h4];congr 3;omega,h5⟩
       ·rw [hq] at hfs;cases hfs
  -- by asking
  have ask:(∃ fs,tk.desc=.struct fs)→∀ (es:List MapEntry) (ks:List D) (o:Option Nat) (n:Nat),es.length=ks.length→(∀ (i:Nat) (e:MapEntry) (d:D),es[i]?=some e→ks[i]?=some d→Rel I nob e.key d)→findK key ks=some o →
      match o with
      | none=>(Instr.findAsking kt kv es n).run P w=.ok none w
      | some i=>∃ e,es[i]?=some e∧(Instr.findAsking kt kv es n).run P w=.ok (some (n+i,e.val)) w∧e.key=kv:=by
    rintro ⟨fs,hfs⟩ es
    induction es with
    | nil =>
     intro ks o n hl hr h
     have:ks=[]:=List.eq_nil_of_length_eq_zero (by simpa using hl.symm)
     subst this
     cases h
     simp [Instr.findAsking]
    | cons e es ih =>
     intro ks o n hl hr h
     cases ks with
     | nil=>simp at hl
     | cons x ks =>
      simp only [findK] at h
      cases hb:eqKD key x with
      | none=>rw [hb] at h;cases h
      | some b =>
       rw [hb] at h
       obtain ⟨h1,h2⟩:=eqKD_sound (w:=w) hk hok hb hkv (hr 0 e x rfl rfl)
       rcases h2 with ⟨q',hq',_⟩ | ⟨_,h2⟩
       ·rw [hfs] at hq';cases hq'
       ·cases b with
        | true =>
         cases h
         exact ⟨e,rfl,by simp [Instr.findAsking,h2],h1 rfl⟩
        | false =>
         simp only at h
         cases hf:findK key ks with
         | none=>rw [hf] at h;cases h
         | some o' =>
          rw [hf] at h
          have ih:=ih ks o' (n+1) (by simpa using hl) (fun i e' d he' hd=>hr (i+1) e' d (by simpa using he') (by simpa using hd)) hf
          have hstep:(Instr.findAsking kt kv (e::es) n).run P w=(Instr.findAsking kt kv es (n+1)).run P w:=by
           simp [Instr.findAsking,h2]
          cases o' with
          | none=>cases h;rw [hstep];exact ih
          | some i =>
           cases h
           obtain ⟨e',h3,h4,h5⟩:=ih
           exact ⟨e',by simpa using h3,by rw [hstep,h4];congr 3;omega,h5⟩
  have hkind:(∃ q,tk.desc=.int q)∨∃ fs,tk.desc=.struct fs:=by
   cases key with
   | int q n =>
    simp only [keyOK] at hok
    cases hd:tk.desc with
    | int q0=>exact .inl ⟨q0,rfl⟩
    | _=>rw [hd] at hok;cases hok
   | agg xs=>exact .inr (hk.kfn (keyOK_agg hok).1)
   | _=>cases hok
  rcases hkind with ⟨q,hq⟩ | ⟨fs,hfs⟩
  ·have:=now q hq es ks o 0 hl hr h
   have hkt:P.underlying kt=some (.int q):=hq ▸ hk.desc
   cases o with
   | none=>exact MapKept.run_findKey hkt this
   | some i =>
    obtain ⟨e,h1,h2,h3⟩:=this
    rw [Nat.zero_add] at h2
    exact ⟨e,h1,MapKept.run_findKey hkt h2,h3⟩
  ·have:=ask ⟨fs,hfs⟩ es ks o 0 hl hr h
   have hkt:P.underlying kt=some (.struct fs):=hfs ▸ hk.desc
   have hrun:∀ r,(Instr.findAsking kt kv es 0).run P w=.ok r w→(Instr.findKey kt kv es).run P w=.ok r w:=fun r hr=>by
    unfold Instr.findKey
    simp only [Sem.run_bind,run_underlying hkt,Result.andThen_ok]
    cases es with
    | nil=>simp [Instr.findNow];simpa [Instr.findAsking] using hr
    | cons e es =>
     have:Instr.findNow (.struct fs) kv (e::es) 0=none:=by simp [Instr.findNow,Instr.sameNow]
     rw [this]
     exact hr
   cases o with
   | none=>exact hrun _ this
   | some i =>
    obtain ⟨e,h1,h2,h3⟩:=this
    rw [Nat.zero_add] at h2
    exact ⟨e,h1,hrun _ h2,h3⟩

omit [Glb] in
theorem run_checkInt {kt:TypeId} {q:IntKind} (hk:P.underlying kt=some (.int q)) (em:Bool) (k:Value):(Instr.checkKey em 10000 kt k).run P w=.ok () w:=by
 show (Instr.checkKey em (9999+1) kt k).run P w=.ok () w
 unfold Instr.checkKey
 simp only [Sem.run_bind,run_underlying hk,Result.andThen]
 cases k <;> rfl

omit [Glb] in
theorem checkKey_sound {kt:TypeId} {tk:TI} (hk:TIok P kt tk) {kv:Value} {key:D} (hok:keyOK tk key=true) (hkv:Rel I β kv key) (em:Bool):(Instr.checkKey em 10000 kt kv).run P w=.ok () w:=by
 cases key with
 | int q n =>
  simp only [keyOK] at hok
  cases hd:tk.desc with
  | int q0=>exact run_checkInt (hd ▸ hk.desc) em kv
  | _=>rw [hd] at hok;cases hok
 | agg xs =>
  obtain ⟨heq,hlen,_⟩:=keyOK_agg hok
  obtain ⟨cs,rfl,hcs⟩:=hkv.agg_inv
  exact hk.kck heq w em cs (hcs.1.1.trans hlen)
 | _=>cases hok

omit [Glb] in
theorem lookE_sound {t kt et:TypeId} {ti tk te:TI} (h:TIok P t ti) (hd:ti.desc=.map kt et) (hk:TIok P kt tk) (he:TIok P et te) {r:Option Nat} {es:List MapEntry} {ks vs:List D} {kv:Value} {key:D} (hi:keyOK tk key=true) {ok:Bool} {k:Eff→Prop}
    (hm:match r with | none=>es=[] | some R=>∃ clock,w.heap[R]?=some (.map es.toArray clock)) (hkl:es.length=ks.length) (hvl:es.length=vs.length)
    (hks:∀ (i:Nat) (e:MapEntry) (d:D),es[i]?=some e→ks[i]?=some d→Rel I nob e.key d) (hvs:∀ (i:Nat) (e:MapEntry) (d:D),es[i]?=some e→vs[i]?=some d→Rel I nob e.val d)
    (hkey:Rel I β kv key) (hq:lookE ks vs key (zeroD te) ok k) :
    ∃ v d,(Instr.lookup t (.map r) kv ok).run P w=.ok v w∧k (.val d)∧Rel I β v d:=by
  have ht:P.underlying t=some (.map kt et):=hd ▸ h.desc
  obtain ⟨z,hz,hzr⟩:=he.run_zeroD w I β
  have hck:=fun em=>checkKey_sound (w:=w) hk hi hkey em
  have main:∀ o,findK key ks=some o→(∃ v0 b0 d0,(∀ ok,(Instr.lookup t (.map r) kv ok).run P w=.ok (if ok then .tuple #[v0,.bool b0] else v0) w)∧Rel I β v0 d0∧(match o with | some i=>vs[i]?=some d0∧b0=true | none=>d0=zeroD te∧b0=false) ∨
      ∃ i,o=some i∧vs[i]?=none):=by
    intro o hf
    have hfs:=findKey_sound (w:=w) hk hi hkey es ks o hkl hks hf
    cases o with
    | none =>
     refine ⟨z,false,zeroD te,.inl ⟨fun ok=>?_,hzr,rfl,rfl⟩⟩
     unfold Instr.lookup
     simp only [Sem.run_bind,run_underlying ht,Result.andThen_ok]
     cases r with
     | none=>simp only at hm;subst hm;simp [hck,hfs,hz]
     | some R =>
      obtain ⟨clock,hh⟩:=hm
      simp [MapKept.run_getObj_map hh,hck,hfs,hz]
    | some i =>
     obtain ⟨e,h1,h2,_⟩:=hfs
     have hil:i<vs.length:=by rw [← hvl];exact (List.getElem?_eq_some_iff.1 h1).1
     refine ⟨e.val,true,vs[i],.inl ⟨fun ok=>?_,(hvs i e vs[i] h1 (List.getElem?_eq_getElem hil)).lift I.le_refl,List.getElem?_eq_getElem hil,rfl⟩⟩
     unfold Instr.lookup
     simp only [Sem.run_bind,run_underlying ht,Result.andThen_ok]
     cases r with
     | none=>simp only at hm;subst hm;simp at h1
     | some R =>
      obtain ⟨clock,hh⟩:=hm
      simp [MapKept.run_getObj_map hh,hck,h2]
  unfold lookE at hq
  cases ok with
  | false =>
   obtain ⟨o,hf,d,ho,hq⟩:=hq
   obtain ⟨v0,b0,d0,⟨hrun,hrel,hm⟩ | ⟨i,rfl,hn⟩⟩:=main o hf
   ·refine ⟨v0,d,by simpa using hrun false,hq,?_⟩
    cases o with
    | none=>rw [ho,← hm.1];exact hrel
    | some i=>simp only at ho hm;rw [hm.1] at ho;cases ho;exact hrel
   ·simp only at ho;rw [hn] at ho;cases ho
  | true =>
   obtain ⟨o,hf,d,b,ho,hq⟩:=hq
   obtain ⟨v0,b0,d0,⟨hrun,hrel,hm⟩ | ⟨i,rfl,hn⟩⟩:=main o hf
   ·refine ⟨_,_,by simpa using hrun true,hq,?_⟩
    cases o with
    | none =>
     obtain ⟨rfl,rfl⟩:=ho
     obtain ⟨rfl,rfl⟩:=hm
     exact Rel.mkTup (vs:=[v0,.bool false]) (RelL.cons hrel (RelL.cons .ff .nil))
    | some i =>
     obtain ⟨ho1,rfl⟩:=ho
     obtain ⟨hm1,rfl⟩:=hm
     rw [hm1] at ho1;cases ho1
     exact Rel.mkTup (vs:=[v0,.bool true]) (RelL.cons hrel (RelL.cons .tt .nil))
   ·obtain ⟨ho1,_⟩:=ho;rw [hn] at ho1;cases ho1

omit [Glb] in
theorem Rel.freeV {v:Value} {d:D} (h:Rel I β v d) (hf:Go.V.freeV d=true):Rel I nob v d:=by
 cases d with
 | agg cs =>
  obtain ⟨xs,rfl,hr⟩:=h.agg_inv
  exact .agg xs cs hr.1.1 hr.2 fun i v d hv hd=>(hr.1.2 i v d hv hd).of_free (allFree_get (by simpa only [Go.V.freeV] using hf) hd)
 | _=>exact h.of_free (by simpa only [Go.V.freeV] using hf)

omit [Glb] in
theorem sameBits_int (n:Nat) (q:IntKind) (m:Int):Instr.sameBits n (.int q m) (.int q m)=true:=by
 cases n <;> simp [Instr.sameBits]
omit [Glb] in
theorem keyStays {tk:TI} {kv:Value} {key:D} (hkv:Rel I β kv key) (hok:keyOK tk key=true):(Instr.keyThatStays kv kv).run P w=.ok kv w:=by
 unfold Instr.keyThatStays
 have:Instr.sameBits 10000 kv kv=true:=by
  cases key with
  | int q n=>rw [hkv.int_inv];exact sameBits_int _ _ _
  | agg xs =>
   obtain ⟨cs,rfl,hcs⟩:=hkv.agg_inv
   have hints:=(keyOK_agg hok).2.2
   show Instr.sameBits (9999+1) (.agg cs) (.agg cs)=true
   unfold Instr.sameBits
   rw [Bool.and_eq_true]
   refine ⟨by simp,?_⟩
   rw [List.all_eq_true]
   rintro ⟨x,y⟩ hxy
   obtain ⟨j,hj⟩:=List.mem_iff_getElem?.1 hxy
   rw [List.getElem?_zip_eq_some] at hj
   obtain ⟨h1,h2⟩:=hj
   rw [h1] at h2;cases h2
   have hjl:=(List.getElem?_eq_some_iff.1 h1).1
   have hjx:j<xs.length:=by rw [← hcs.1.1];exact hjl
   have hd:xs[j]?=some xs[j]:=List.getElem?_eq_getElem hjx
   obtain ⟨k,m,hm⟩:=hints xs[j] (List.getElem_mem _)
   have hr:=hcs.1.2 j x xs[j] h1 hd
   rw [hm] at hr
   simp only
   rw [hr.int_inv]
   exact sameBits_int _ _ _
  | _=>cases hok
 rw [if_pos this]
 rfl

omit [Glb] in
theorem modify_born (x:Value) (kv:Value):∀ (es:List MapEntry) (i:Nat),(es.modify i fun e=>{ e with key:=kv,val:=x }).map (·.born)=es.map (·.born)
 | [],i=>by cases i <;> rfl
 | e::r,0=>rfl
 | e::r,i+1=>by
  simp only [List.modify_succ_cons,List.map_cons]
  rw [modify_born x kv r i]

omit [Glb] in
theorem bornOK_map {l l':List MapEntry} (h:l'.map (·.born)=l.map (·.born)) (hb:BornOK l):BornOK l':=by
 have h1:(l.map (·.born)).Pairwise (·<·):=List.pairwise_map.2 hb
 rw [← h] at h1
 exact List.pairwise_map.1 h1

omit [Glb] in
theorem MapRel.modify {es:List MapEntry} {ks vs:List D} (h:MapRel I es ks vs) {i:Nat} {e:MapEntry} {kv xv:Value} {x:D} (he:es[i]?=some e) (hk:e.key=kv) (hx:Rel I nob xv x) :
    MapRel I (es.modify i fun e=>{ e with key:=kv,val:=xv }) ks (vs.set i x):=by
  refine ⟨bornOK_map (modify_born xv kv es i) h.born,by rw [List.length_modify];exact h.kl,by rw [List.length_modify,List.length_set];exact h.vl,fun j e' d he' hd=>?_,fun j e' d he' hd=>?_⟩
  ·rw [List.getElem?_modify] at he'
   by_cases hij:i=j
   ·subst hij
    rw [he] at he'
    simp only [if_true,Option.map_eq_map,Option.map_some,Option.some.injEq] at he'
    subst he'
    rw [← hk]
    exact h.k i e d he hd
   ·simp only [if_neg hij] at he'
    have he':es[j]?=some e':=by cases hx:es[j]? with | none=>rw [hx] at he';cases he' | some y=>rw [hx] at he';exact he'
    exact h.k j e' d (by simpa using he') hd
  ·rw [List.getElem?_modify] at he'
   by_cases hij:i=j
   ·subst hij
    rw [he] at he'
    simp only [if_true,Option.map_eq_map,Option.map_some,Option.some.injEq] at he'
    subst he'
    have hl:i<vs.length:=by rw [← h.vl];exact (List.getElem?_eq_some_iff.1 he).1
    rw [List.getElem?_set_self hl] at hd
    cases hd
    exact hx
   ·simp only [if_neg hij] at he'
    have he':es[j]?=some e':=by cases hx:es[j]? with | none=>rw [hx] at he';cases he' | some y=>rw [hx] at he';exact he'
    rw [List.getElem?_set_ne hij] at hd
    exact h.v j e' d (by simpa using he') hd

omit [Glb] in
theorem MapRel.push {es:List MapEntry} {ks vs:List D} (h:MapRel I es ks vs) {kv xv:Value} {key x:D} {clock:Nat} (hc:∀ e∈es,e.born<clock) (hk:Rel I nob kv key) (hx:Rel I nob xv x) :
    MapRel I (es++[{ key:=kv,val:=xv,born:=clock }]) (ks++[key]) (vs++[x]):=by
  refine ⟨List.pairwise_append.2 ⟨h.born,List.pairwise_singleton _ _,fun e he e' he'=>by simp at he';subst he';exact hc e he⟩,by simp [h.kl],by simp [h.vl],fun j e' d he' hd=>?_,fun j e' d he' hd=>?_⟩
  ·by_cases hj:j<es.length
   ·rw [List.getElem?_append_left hj] at he'
    rw [List.getElem?_append_left (by rw [← h.kl];exact hj)] at hd
    exact h.k j e' d he' hd
   ·rw [List.getElem?_append_right (by omega)] at he'
    rw [List.getElem?_append_right (by rw [← h.kl];omega)] at hd
    rw [h.kl] at he'
    have:j - ks.length=0:=by
     rcases Nat.eq_zero_or_pos (j - ks.length) with h0 | h0
     ·exact h0
     ·rw [List.getElem?_eq_none (by simp;omega)] at hd;cases hd
    rw [this] at he' hd
    simp at he' hd
    subst he' hd
    exact hk
  ·by_cases hj:j<es.length
   ·rw [List.getElem?_append_left hj] at he'
    rw [List.getElem?_append_left (by rw [← h.vl];exact hj)] at hd
    exact h.v j e' d he' hd
   ·rw [List.getElem?_append_right (by omega)] at he'
    rw [List.getElem?_append_right (by rw [← h.vl];omega)] at hd
    rw [h.vl] at he'
    have:j - vs.length=0:=by
     rcases Nat.eq_zero_or_pos (j - vs.length) with h0 | h0
     ·exact h0
     ·rw [List.getElem?_eq_none (by simp;omega)] at hd;cases hd
    rw [this] at he' hd
    simp at he' hd
    subst he' hd
    exact hx

omit [Glb] in
theorem keep_setBlock (w:World) (R:Nat) (o:Obj):Keep (fun k=>k≠R) w { w with heap:=w.heap.setIfInBounds R o } :=
 ⟨rfl,rfl,rfl,by simp,fun k hk=>by simp [Ne.symm hk]⟩

theorem mupdE_sound (hcx:cx.Ok) (hs:Sim cx V σ β I S N a w) {t kt et:TypeId} {ti tk:TI} (h:TIok P t ti) (hd:ti.desc=.map kt et) (hk:TIok P kt tk) {mv kv xv:Value} {m key x:D}
    (hm:Rel I β mv m) (hkey:Rel I β kv key) (hx:Rel I β xv x) {k:Eff→Prop} (hq:mupdE tk σ.boxes m key x k) :
    ∃ w' i b,(Instr.mapUpdate t mv kv xv).run P w=.ok () w'∧k (.set i b .und)∧Sim cx V ⟨σ.tmps,σ.boxes.set i b,σ.y⟩ β I S N a w':=by
  have ht:P.underlying t=some (.map kt et):=hd ▸ h.desc
  unfold mupdE at hq
  cases m with
  | mloc i =>
   simp only at hq
   cases hm with
   | mloc _ b R hb hf hR =>
   obtain ⟨box,hbox,hbr⟩:=hs.bx i b hb
   rw [hbox] at hq
   cases box with
   | flat=>exact hq.elim
   | rows=>exact hq.elim
   | siter=>exact hq.elim
   | miter=>exact hq.elim
   | map fz ks vs =>
    cases fz with
    | true=>exact hq.elim
    | false =>
     obtain ⟨hchk,o,hfk,ks',vs',ho,hq⟩:=iff'_true hq
     obtain ⟨hok,hfree,hnm⟩:keyOK tk key=true∧Go.V.freeV x=true∧noMit i σ.boxes=true:=by
      split at hchk
      ·exact ⟨by assumption,by assumption,hchk⟩
      ·cases hchk
     obtain ⟨hfl,R',es,clock,hR',hh,hclk,hmr⟩:=hbr
     rw [hR] at hR';cases hR'
     have hck:=fun em=>checkKey_sound (w:=w) hk hok hkey em
     have hfs:=findKey_sound (w:=w) hk hok hkey es.toList ks o hmr.kl hmr.k hfk
     have hkeep:∀ ob:Obj,Keep (fun B=>B<w.heap.size∧b.R≠some B) w { w with heap:=w.heap.setIfInBounds R ob }:=fun ob =>
      (keep_setBlock w R ob).mono fun B hB e=>hB.2 (by rw [hR,e])
     have hget:∀ ob:Obj,({ w with heap:=w.heap.setIfInBounds R ob }:World).heap[R]?=some ob:=fun ob=>by
      have:=heap_lt hh
      simp [this]
     have hkfree:Rel I nob kv key:=by
      cases key with
      | int q n=>rw [hkey.int_inv];exact .int _ _
      | agg xs =>
       obtain ⟨cs,rfl,hcs⟩:=hkey.agg_inv
       refine .agg cs xs hcs.1.1 hcs.2 fun j v d hv hd'=>?_
       obtain ⟨k,m,rfl⟩:=(keyOK_agg hok).2.2 d (List.mem_of_getElem? hd')
       rw [(hcs.1.2 j v _ hv hd').int_inv]
       exact .int _ _
      | _=>cases hok
     cases o with
     | none =>
      obtain ⟨rfl,rfl⟩:=ho
      refine ⟨{ w with heap:=w.heap.setIfInBounds R (.map (es.push { key:=kv,val:=xv,born:=clock }) (clock+1)) },i,_,?_,hq,?_⟩
      ·unfold Instr.mapUpdate
       simp [run_underlying ht,MapKept.run_getObj_map hh,hck,hfs,MapKept.run_setObj_map _ hh]
      · have:=hs.set hcx hb hbox rfl (fun _ _ _ _=>hnm) (b':=b) (box':=.map false (ks++[key]) (vs++[x])) (hkeep (.map (es.push { key:=kv,val:=xv,born:=clock }) (clock+1))) (fun R hR=>.inl hR) (le_same hb) (by
          rw [same_fun hb]
          refine ⟨hfl,R,_,clock+1,hR,hget _,fun e he=>?_,?_⟩
          ·simp only [Array.toList_push,List.mem_append,List.mem_singleton] at he
           rcases he with he | rfl
           ·have:=hclk e he;omega
           ·exact Nat.lt_succ_self _
          ·rw [Array.toList_push]
           exact hmr.push hclk hkfree (hx.freeV hfree))
        rw [same_fun hb] at this
        exact this
     | some j =>
      obtain ⟨rfl,rfl⟩:=ho
      obtain ⟨e,h1,h2,h3⟩:=hfs
      have h1a:es[j]?=some e:=by simpa using h1
      have hst:=keyStays (P:=P) (w:=w) hkey hok
      refine ⟨{ w with heap:=w.heap.setIfInBounds R (.map (es.modify j fun e=>{ e with key:=kv,val:=xv }) clock) },i,_,?_,hq,?_⟩
      ·unfold Instr.mapUpdate
       simp [run_underlying ht,MapKept.run_getObj_map hh,hck,h2,h1a,h3,hst,MapKept.run_setObj_map _ hh]
      · have:=hs.set hcx hb hbox rfl (fun _ _ _ _=>hnm) (b':=b) (box':=.map false ks' (vs.set j x)) (hkeep (.map (es.modify j fun e=>{ e with key:=kv,val:=xv }) clock)) (fun R hR=>.inl hR) (le_same hb) (by
          rw [same_fun hb]
          refine ⟨hfl,R,_,clock,hR,hget _,fun e' he'=>?_,?_⟩
          ·rw [Array.toList_modify] at he'
           have hbm:e'.born∈(es.toList.modify j fun e=>{ e with key:=kv,val:=xv }).map (·.born):=List.mem_map_of_mem he'
           rw [modify_born] at hbm
           obtain ⟨e2,h5,h6⟩:=List.mem_map.1 hbm
           rw [← h6];exact hclk e2 h5
          ·rw [Array.toList_modify]
           exact hmr.modify h1 h3 (hx.freeV hfree))
        rw [same_fun hb] at this
        exact this
  | _=>exact hq.elim

theorem next_sound (hcx:cx.Ok) (hs:Sim cx V σ β I S N a w) {v:Value} {i:Nat} (hv:Rel I β v (.sit i)) {s:ByteArray} {pos:Nat} (hbox:σ.boxes[i]?=some (.siter false s pos)) {k:Eff→Prop}
    (hk:(pos<s.size→∃ c wd,Utf8.decode s pos=(c,wd)∧k (.set i (.siter false s (pos+wd)) (.tup [.tt,.int .i64 pos,.int .i32 c])))∧(¬ pos<s.size→k (.set i (.siter false s pos) (.tup [.ff])))) (ty:TypeId) :
    ∃ w' pos' d e,(Instr.next v true ty).run P w=.ok e w'∧k (.set i (.siter false s pos') d)∧Sim cx V ⟨σ.tmps,σ.boxes.set i (.siter false s pos'),σ.y⟩ β I S N a w'∧Rel I β e d:=by
  cases hv with
  | sit _ b R hb hf hR =>
  obtain ⟨box,hbx,hbr⟩:=hs.bx i b hb
  rw [hbox] at hbx;cases hbx
  obtain ⟨_,R',hR',hh⟩:=hbr
  rw [hR] at hR';cases hR'
  have hkeep:∀ ob:Obj,Keep (fun B=>B<w.heap.size∧b.R≠some B) w { w with heap:=w.heap.setIfInBounds R ob }:=fun ob =>
   (keep_setBlock w R ob).mono fun B hB e=>hB.2 (by rw [hR,e])
  have hget:∀ ob:Obj,({ w with heap:=w.heap.setIfInBounds R ob }:World).heap[R]?=some ob:=fun ob=>by
   have:=heap_lt hh
   simp [this]
  have hset:∀ pos',Sim cx V ⟨σ.tmps,σ.boxes.set i (.siter false s pos'),σ.y⟩ β I S N a { w with heap:=w.heap.setIfInBounds R (.stringIter s pos') }:=fun pos'=>by
   have:=hs.set hcx hb hbox rfl (fun _ _ _ e=>by cases e) (b':=b) (box':=.siter false s pos') (hkeep (.stringIter s pos')) (fun R hR=>.inl hR) (le_same hb) (by
    rw [same_fun hb]
    exact ⟨hf,R,hR,hget _⟩)
   rw [same_fun hb] at this
   exact this
  have hsame:({ w with heap:=w.heap.setIfInBounds R (.stringIter s pos) }:World)=w:=by
   have:w.heap.setIfInBounds R (.stringIter s pos)=w.heap:=by
    apply Array.ext_getElem?
    intro j
    by_cases hj:R=j
    ·subst hj
     rw [Array.getElem?_setIfInBounds_self_of_lt (heap_lt hh),hh]
    ·rw [Array.getElem?_setIfInBounds_ne hj]
   rw [this]
  by_cases hp:pos<s.size
  ·obtain ⟨c,wd,hcw,hk⟩:=hk.1 hp
   refine ⟨_,pos+wd,_,.tuple #[.bool true,.int .i64 pos,.int .i32 c],?_,hk,hset _,Rel.mkTup (vs:=[.bool true,.int .i64 pos,.int .i32 c]) (RelL.cons .tt (RelL.cons (.int _ _) (RelL.cons (.int _ _) .nil)))⟩
   simp only [Instr.next,getObj,setObj,Sem.run_bind,Sem.run,hh,Result.andThen,hp,if_true,hcw]
   simp [goInt]
  ·refine ⟨_,pos,_,.tuple #[.bool false],?_,hk.2 hp,hset _,Rel.mkTup (vs:=[.bool false]) (RelL.cons .ff .nil)⟩
   rw [hsame]
   simp [Instr.next,getObj,Sem.run,hh,hp]

end
end Go.V

namespace Go.V
open Go.RowKit

section
variable {P:Program} [Glb] {T:Nat→Option TI} {cx:Cx} {V:Nat→Prop} {σ:St} {β:BE} {I:Imm} {S:Nat→Prop} {N:Nat} {a:Act} {w:World}

def leftE (es:Array MapEntry) (seen:Array Nat):Array MapEntry:=es.filter fun e=>!seen.contains e.born

omit [Glb] in
theorem mit_test (seen:Array Nat) (es:Array MapEntry) (since c0:Nat) (hold:∀ x∈es.toList,x.born<since) (hsc:since≤c0) :
    (!seen.isEmpty && !es.isEmpty && es.all (fun x=>decide (x.born ≥ c0)))=false:=by
  cases he:es.isEmpty with
  | true=>simp
  | false =>
   have hall:es.all (fun x=>decide (x.born ≥ c0))=false:=by
    rw [Bool.eq_false_iff]
    intro h
    rw [Array.all_eq_true_iff_forall_mem] at h
    have h0:0<es.size:=by
     rcases Nat.eq_zero_or_pos es.size with h0 | h0
     ·simp [Array.isEmpty,h0] at he
     ·exact h0
    have hm:es[0]∈es:=Array.getElem_mem h0
    have h1:=h _ hm
    have h2:=hold es[0] (by simp)
    simp at h1
    omega
   simp [hall]

omit [Glb] in
theorem run_next_at (w:World) (ty:TypeId) (R bm since c0:Nat) (seen:Array Nat) (es:Array MapEntry) (clock:Nat) (hR:w.heap[R]?=some (.mapIter (some bm) since seen c0)) (hb:w.heap[bm]?=some (.map es clock))
    (hold:∀ x∈es.toList,x.born<since) (hsc:since≤c0) :
    ((leftE es seen).size=0∧(Instr.next (.pointer (some ⟨R,0,none⟩)) false ty).run P w=.ok (.tuple #[.bool false]) w) ∨
    ∃ e∈(leftE es seen).toList,∃ w1:World,Keep (fun _=>True) w w1∧(Instr.next (.pointer (some ⟨R,0,none⟩)) false ty).run P w=.ok (.tuple #[.bool true,e.key,e.val]) { w1 with heap:=w1.heap.setIfInBounds R (.mapIter (some bm) since (seen.push e.born) clock) }:=by
  simp only [Instr.next,getObj,Sem.run_bind,Sem.run,hR,hb,Result.andThen,mit_test seen es since c0 hold hsc,Bool.false_eq_true,if_false]
  unfold leftE
  have hmem:∀ x∈(Array.filter (fun e=>!seen.contains e.born) es).toList,x.born<since:=fun x hx=>hold x (by simp at hx ⊢;exact hx.1)
  generalize Array.filter (fun e=>!seen.contains e.born) es=L at hmem ⊢
  have e1:L.filter (fun x=>decide (x.born<since))=L:=Array.filter_eq_self.2 (fun x hx=>by simpa using hmem x (by simpa using hx))
  have e2:L.filter (fun x=>decide (x.born ≥ since))=#[]:=by
   rw [Array.filter_eq_empty_iff]
   intro x hx
   have:=hmem x (by simpa using hx)
   simp
   omega
  simp only [e1,e2,Array.append_empty]
  by_cases h0:L.size=0
  ·left
   have:L=#[]:=Array.eq_empty_of_size_eq_zero h0
   subst this
   refine ⟨rfl,?_⟩
   simp [choose,Sem.run,Question.forced]
  ·right
   have hne:L.isEmpty=false:=by simp [Array.isEmpty,h0]
   simp only [hne,Bool.false_eq_true,if_false,Array.empty_append,Array.size_map]
   have hch:∃ (j:Nat) (w1:World),j<L.size∧(w1=w∨w1=w.drew)∧(choose (Question.mapNext L.size)).run P w=.ok j w1:=by
    by_cases hf:L.size≤1
    ·exact ⟨0,w,by omega,.inl rfl,by simp [choose,Sem.run,Question.forced,hf]⟩
    · exact ⟨_,w.drew,Nat.mod_lt _ (by omega),.inr rfl,by
        simp only [choose,Sem.run,Question.forced,decide_eq_true_eq,hf,if_false,Question.cut]
        rfl⟩
   obtain ⟨j,w1,hj,hw1,hrun⟩:=hch
   have hk:Keep (fun _=>True) w w1:=by
    rcases hw1 with rfl | rfl
    ·exact Keep.refl _ _
    ·exact Keep.drew _ _
   refine ⟨L[j],by simp,w1,hk,?_⟩
   have hR1:w1.heap[R]?=some (.mapIter (some bm) since seen c0):=(hk.block R trivial).trans hR
   have hset:∀ o':Obj,(setObj R o').run P w1=.ok () { w1 with heap:=w1.heap.setIfInBounds R o' }:=fun o'=>by
    simp only [setObj,Sem.run,hR1]
   simp only [hrun,Array.getElem?_map,Array.getElem?_eq_getElem hj,Option.map_some,Sem.run_bind,hset,Result.andThen]
   rfl

omit [Glb] in
theorem born_inj' {es:List MapEntry} (h:BornOK es) {i j:Nat} {e e':MapEntry} (hi:es[i]?=some e) (hj:es[j]?=some e') (hb:e.born=e'.born):i=j:=by
 obtain ⟨hil,rfl⟩:=List.getElem?_eq_some_iff.1 hi
 obtain ⟨hjl,rfl⟩:=List.getElem?_eq_some_iff.1 hj
 have hp:=List.pairwise_iff_getElem.1 h
 rcases Nat.lt_trichotomy i j with h1 | h1 | h1
 ·have:=hp i j hil hjl h1;omega
 ·exact h1
 ·have:=hp j i hjl hil h1;omega

omit [Glb] in
theorem seen_mem {es:Array MapEntry} {seen:List Nat} {sn:Array Nat} (hsn:sn.toList=(seen.reverse.map fun q=>((es[q]?).map (·.born)).getD 0)) (hlt:∀ q∈seen,q<es.size) (hb:BornOK es.toList) {q:Nat} {e:MapEntry} (hq:es[q]?=some e) :
    sn.contains e.born=true↔q∈seen:=by
  rw [Array.contains_iff_mem,← Array.mem_toList_iff,hsn]
  constructor
  ·intro h
   obtain ⟨q',hq',he⟩:=List.mem_map.1 h
   have hq':=List.mem_reverse.1 hq'
   have hl:=hlt q' hq'
   have h1:es[q']?=some es[q']:=Array.getElem?_eq_getElem hl
   rw [h1] at he
   have:=born_inj' hb (i:=q') (j:=q) (e:=es[q']) (e':=e) (by simp) (by simpa using hq) he
   rw [← this];exact hq'
  ·intro h
   exact List.mem_map.2 ⟨q,List.mem_reverse.2 h,by rw [hq];rfl⟩

omit [Glb] in
theorem range_map (hs:Sim cx V σ β I S N a w) {t kt et:TypeId} (ht:P.underlying t=some (.map kt et)) {v:Value} {j:Nat} (hv:Rel I β v (.mloc j)) {fz:Bool} {ks vs:List D} (hbox:σ.boxes[j]?=some (.map fz ks vs)) :
    ∃ o,(Instr.range t v).run P w=.ok (.pointer (some ⟨w.heap.size,0,none⟩)) (w.alloc o)∧∀ β':BE,β.le β'→BoxRel I β' (w.alloc o) ⟨some w.heap.size,true,0,0,0,0⟩ (.miter false j ks vs []):=by
  cases hv with
  | mloc _ b R hb hf hR =>
  obtain ⟨box,hbx,hbr⟩:=hs.bx j b hb
  rw [hbox] at hbx;cases hbx
  obtain ⟨_,R',es,clock,hR',hh,hclk,hmr⟩:=hbr
  rw [hR] at hR';cases hR'
  refine ⟨.mapIter (some R) clock #[] clock,?_,fun β' hle=>?_⟩
  ·simp [Instr.range,run_underlying ht,MapKept.run_getObj_map hh]
  · have hbj:β' j=some b:=by
      obtain ⟨b',h1,rfl | ⟨h2,_⟩⟩:=hle j b hb
      ·exact h1
      ·rw [hf] at h2;cases h2
    refine ⟨rfl,w.heap.size,b,R,es,clock,clock,clock,#[],rfl,hbj,hf,hR,World.alloc_heap_new w _,(Below.heap_alloc w _ R (heap_lt hh)).trans hh,hclk,Nat.le_refl _,Nat.le_refl _,fun q hq=>(by cases hq),hmr,rfl,fun q hq=>(by cases hq)⟩

theorem next_map (hcx:cx.Ok) (hs:Sim cx V σ β I S N a w) {v:Value} {i:Nat} (hv:Rel I β v (.sit i)) {j:Nat} {ks vs:List D} {seen:List Nat} (hbox:σ.boxes[i]?=some (.miter false j ks vs seen)) {k:Eff→Prop}
    (hk:(∀ (q:Nat) (kd vd:D),ks[q]?=some kd→vs[q]?=some vd→q ∉ seen→k (.set i (.miter false j ks vs (q::seen)) (.tup [.tt,kd,vd])))∧((∀ q:Nat,q<ks.length→q∈seen)→k (.set i (.miter false j ks vs seen) (.tup [.ff])))) (ty:TypeId) :
    ∃ w' seen' d e,(Instr.next v false ty).run P w=.ok e w'∧k (.set i (.miter false j ks vs seen') d)∧Sim cx V ⟨σ.tmps,σ.boxes.set i (.miter false j ks vs seen'),σ.y⟩ β I S N a w'∧Rel I β e d:=by
  cases hv with
  | sit _ b R hb hf hR =>
  obtain ⟨box,hbx,hbr⟩:=hs.bx i b hb
  rw [hbox] at hbx;cases hbx
  obtain ⟨_,R',bm,Rm,es,clock,since,c0,sn,hR',hbm,hmf,hRm,h1,h2,h3,h4,h4',h5,h6,h7,h8⟩:=hbr
  rw [hR] at hR';cases hR'
  have hne:Rm≠R:=fun e=>by rw [e,h1] at h2;cases h2
  rcases run_next_at (P:=P) w ty R Rm since c0 sn es clock h1 h2 h3 h4 with ⟨h0,hrun⟩ | ⟨e,he,w1,hk1,hrun⟩
  ·refine ⟨w,seen,_,_,hrun,hk.2 fun q hq=>?_,?_,Rel.mkTup (vs:=[.bool false]) (RelL.cons .ff .nil)⟩
   ·have hql:q<es.size:=by have:=h6.kl;simp at this;omega
    have hqe:es[q]?=some es[q]:=Array.getElem?_eq_getElem hql
    refine (seen_mem h7 h8 h6.born hqe).1 ?_
    cases hc:sn.contains es[q].born with
    | true=>rfl
    | false =>
     exfalso
     have:es[q]∈leftE es sn:=Array.mem_filter.2 ⟨Array.getElem_mem hql,by rw [hc];rfl⟩
     have:=Array.size_pos_of_mem this
     omega
   · have:σ.boxes.set i (.miter false j ks vs seen)=σ.boxes:=by
       refine List.ext_getElem? fun n=>?_
       rw [List.getElem?_set]
       split
       ·rename_i e;subst e
        rw [hbox,if_pos (List.getElem?_eq_some_iff.1 hbox).1]
       ·rfl
     rw [this]
     exact hs
  · have hmem:e∈es∧sn.contains e.born=false:=by
      unfold leftE at he
      simpa using he
    obtain ⟨q,hq⟩:=Array.mem_iff_getElem?.1 hmem.1
    have hql:=(Array.getElem?_eq_some_iff.1 hq).1
    have hkl:q<ks.length:=by have:=h6.kl;simp at this;omega
    have hvl:q<vs.length:=by have:=h6.vl;simp at this;omega
    have hnot:q ∉ seen:=fun h=>by
     have:=(seen_mem h7 h8 h6.born hq).2 h
     rw [hmem.2] at this;cases this
    have hkr:=h6.k q e ks[q] (by simpa using hq) (List.getElem?_eq_getElem hkl)
    have hvr:=h6.v q e vs[q] (by simpa using hq) (List.getElem?_eq_getElem hvl)
    have h11:w1.heap[R]?=some (.mapIter (some Rm) since sn c0):=(hk1.block R trivial).trans h1
    refine ⟨_,q::seen,_,_,hrun,hk.1 q ks[q] vs[q] (List.getElem?_eq_getElem hkl) (List.getElem?_eq_getElem hvl) hnot,?_,
     Rel.mkTup (vs:=[.bool true,e.key,e.val]) (RelL.cons .tt (RelL.cons (hkr.lift I.le_refl) (RelL.cons (hvr.lift I.le_refl) .nil)))⟩
    have hkeep:Keep (fun B=>B<w.heap.size∧b.R≠some B) w { w1 with heap:=w1.heap.setIfInBounds R (.mapIter (some Rm) since (sn.push e.born) clock) } :=
     (hk1.mono fun _ _=>trivial).trans ((keep_setBlock w1 R _).mono fun B hB e=>hB.2 (by rw [hR,e]))
    have:=hs.set hcx hb hbox rfl (fun _ _ _ e=>by cases e) (b':=b) (box':=.miter false j ks vs (q::seen)) hkeep (fun R hR=>.inl hR) (le_same hb) (by
     rw [same_fun hb]
     refine ⟨hf,R,bm,Rm,es,clock,since,clock,sn.push e.born,hR,hbm,hmf,hRm,?_,?_,h3,h4',h4',fun _ _=>rfl,h6,?_,?_⟩
     ·have:=heap_lt h11
      simp [this]
     ·have h12:w1.heap[Rm]?=some (.map es clock):=(hk1.block Rm trivial).trans h2
      simp [Ne.symm hne,h12]
     ·rw [Array.toList_push,h7]
      simp [hq]
     ·intro q' hq'
      rcases List.mem_cons.1 hq' with rfl | hq'
      ·exact hql
      ·exact h8 q' hq')
    rw [same_fun hb] at this
    exact this

omit [Glb] in
theorem entry_map (hs:Sim cx V σ β I S N a w) {v:Value} {i:Nat} (hv:Rel I β v (.sit i)) {fz:Bool} {j:Nat} {ks vs:List D} {q:Nat} {seen:List Nat} (hbox:σ.boxes[i]?=some (.miter fz j ks vs (q::seen))) {kd vd:D} (hkd:ks[q]?=some kd) (hvd:vs[q]?=some vd) :
    ∃ e,(Instr.entry v).run P w=.ok e w∧Rel I β e (.tup [kd,vd]):=by
  cases hv with
  | sit _ b R hb hf hR =>
  obtain ⟨box,hbx,hbr⟩:=hs.bx i b hb
  rw [hbox] at hbx;cases hbx
  obtain ⟨_,R',bm,Rm,es,clock,since,c0,sn,hR',hbm,hmf,hRm,h1,h2,h3,h4,h4',h5,h6,h7,h8⟩:=hbr
  rw [hR] at hR';cases hR'
  have hc0:c0=clock:=h5 q rfl
  subst hc0
  have hql:=h8 q (by simp)
  have hqe:es[q]?=some es[q]:=Array.getElem?_eq_getElem hql
  have hback:sn.back?=some es[q].born:=by
   rw [← Array.getLast?_toList,h7,List.reverse_cons,List.map_append,List.map_cons,List.map_nil,List.getLast?_concat,hqe]
   rfl
  have hfind:es.find? (·.born==es[q].born)=some es[q]:=by
   rw [← Array.find?_toList]
   have key:∀ (l:List MapEntry),BornOK l→∀ e∈l,l.find? (·.born==e.born)=some e:=by
    intro l
    induction l with
    | nil=>intro _ e he;cases he
    | cons x r ih =>
     intro hb e he
     obtain ⟨hx,hr⟩:=List.pairwise_cons.1 hb
     rw [List.find?_cons]
     rcases List.mem_cons.1 he with rfl | he
     ·simp
     ·have:(x.born==e.born)=false:=by have:=hx e he;simp;omega
      rw [this]
      exact ih hr e he
   exact key _ h6.born _ (by simp)
  refine ⟨.tuple #[es[q].key,es[q].val],?_,Rel.mkTup (vs:=[es[q].key,es[q].val]) (RelL.cons ((h6.k q _ kd (by simp) hkd).lift I.le_refl) (RelL.cons ((h6.v q _ vd (by simp) hvd).lift I.le_refl) .nil))⟩
  simp only [Instr.entry,getObj,Sem.run_bind,Sem.run,h1,h2,Result.andThen,hback,bne_self_eq_false,Bool.false_eq_true,if_false,hfind]
  rfl

end
end Go.V

namespace Go.V
open Go.RowKit

theorem renL_eq (f:Nat→Nat):∀ l,renL f l=l.map (ren f)
 | []=>rfl
 | d::r=>by simp only [renL,List.map_cons];rw [renL_eq f r]

theorem renL_get {f:Nat→Nat} {l:List D} {i:Nat}:(renL f l)[i]?=(l[i]?).map (ren f):=by rw [renL_eq,List.getElem?_map]

theorem Rel.ren {I:Imm} {β β':BE} {v:Value} {d:D} (h:Rel I β v d) {f:Nat→Nat} (hf:∀ i b,β i=some b→β' (f i)=some b):Rel I β' v (ren f d):=by
 induction h with
 | agg cs ds hl h1 _ ih =>
  refine .agg cs _ (by rw [renL_eq];simpa using hl) h1 fun i v d hv hd=>?_
  rw [renL_get] at hd
  cases hd':ds[i]? with
  | none=>rw [hd'] at hd;cases hd
  | some d'=>rw [hd'] at hd;cases hd;exact ih i v d' hv hd' hf
 | tup cs ds hl _ ih =>
  refine .tup cs _ (by rw [renL_eq];simpa using hl) fun i v d hv hd=>?_
  rw [renL_get] at hd
  cases hd':ds[i]? with
  | none=>rw [hd'] at hd;cases hd
  | some d'=>rw [hd'] at hd;cases hd;exact ih i v d' hv hd' hf
 | clo fn vs us ds es hl hm _ _ ih ih' =>
  refine .clo fn vs us _ _ (by rw [renL_eq];simpa using hl) (by rw [renL_eq];simpa using hm) (fun i v d hv hd=>?_) fun i v d hv hd=>?_
  ·rw [renL_get] at hd
   cases hd':ds[i]? with
   | none=>rw [hd'] at hd;cases hd
   | some d'=>rw [hd'] at hd;cases hd;exact ih i v d' hv hd' hf
  ·rw [renL_get] at hd
   cases hd':es[i]? with
   | none=>rw [hd'] at hd;cases hd
   | some d'=>rw [hd'] at hd;cases hd;exact ih' i v d' hv hd' hf
 | loc i off b R hb hfl hR=>exact .loc _ off b R (hf i b hb) hfl hR
 | aloc i off b R hb hfl hR=>exact .aloc _ off b R (hf i b hb) hfl hR
 | rloc i g r off b R hb hfl hR hg=>exact .rloc _ g r off b R (hf i b hb) hfl hR hg
 | rstale a i g r off b hb hfl hg=>exact .rstale a _ g r off b (hf i b hb) hfl hg
 | sl a c i g off len b hb hfl hg hc hl hn ha=>exact .sl a c _ g off len b (hf i b hb) hfl hg hc hl hn ha
 | mstale a c i g off len b hb hfl hg=>exact .mstale a c _ g off len b (hf i b hb) hfl hg
 | und v=>exact .und v
 | skp=>exact .skp
 | tt=>exact .tt
 | ff=>exact .ff
 | bool b=>exact .bool b
 | int k n=>exact .int k n
 | str s=>exact .str s
 | nilp=>exact .nilp
 | ro B off ds u hI h1 h _=>exact .ro B off ds u hI h1 h
 | list0 a cap sz=>exact .list0 a cap sz
 | list B off cap sz rows u hc hrow hI h1 h _=>exact .list B off cap sz rows u hc hrow hI h1 h
 | nils a=>exact .nils a
 | nilf=>exact .nilf
 | yld l=>exact .yld l
 | nilm=>exact .nilm
 | mloc i b R hb hfl hR=>exact .mloc _ b R (hf i b hb) hfl hR
 | sit i b R hb hfl hR=>exact .sit _ b R (hf i b hb) hfl hR
 | asl c i len b R hb hfl hR=>exact .asl c _ len b R (hf i b hb) hfl hR
 | gp g off=>exact .gp g off
 | mro R es ks vs hI hb hl hm h h' _ _=>exact .mro R es ks vs hI hb hl hm h h'

theorem Rel.unren {I:Imm} {β β':BE} {v:Value} {e:D} (h:Rel I β' v e) {f:Nat→Nat} (hf:∀ i,β i=β' (f i)):∀ {d:D},e=V.ren f d→Rel I β v d:=by
 induction h with
 | agg cs ds hl h1 _ ih =>
  intro d e
  cases d <;> simp only [V.ren,D.agg.injEq,reduceCtorEq] at e
  subst e
  refine .agg cs _ (by rw [renL_eq] at hl;simpa using hl) h1 fun i v d hv hd=>ih i v (V.ren f d) hv (by rw [renL_get,hd];rfl) hf rfl
 | tup cs ds hl _ ih =>
  intro d e
  cases d <;> simp only [V.ren,D.tup.injEq,reduceCtorEq] at e
  subst e
  refine .tup cs _ (by rw [renL_eq] at hl;simpa using hl) fun i v d hv hd=>ih i v (V.ren f d) hv (by rw [renL_get,hd];rfl) hf rfl
 | clo fn vs us ds es hl hm _ _ ih ih' =>
  intro d e
  cases d <;> simp only [V.ren,D.clo.injEq,reduceCtorEq] at e
  obtain ⟨rfl,rfl,rfl⟩:=e
  refine .clo _ vs us _ _ (by rw [renL_eq] at hl;simpa using hl) (by rw [renL_eq] at hm;simpa using hm) (fun i v d hv hd=>ih i v (V.ren f d) hv (by rw [renL_get,hd];rfl) hf rfl) fun i v d hv hd=>ih' i v (V.ren f d) hv (by rw [renL_get,hd];rfl) hf rfl
 | loc i off b R hb hfl hR =>
  intro d e
  cases d <;> simp only [V.ren,D.loc.injEq,reduceCtorEq] at e
  obtain ⟨rfl,rfl⟩:=e
  exact .loc _ _ b R ((hf _).trans hb) hfl hR
 | aloc i off b R hb hfl hR =>
  intro d e
  cases d <;> simp only [V.ren,D.aloc.injEq,reduceCtorEq] at e
  obtain ⟨rfl,rfl⟩:=e
  exact .aloc _ _ b R ((hf _).trans hb) hfl hR
 | rloc i g r off b R hb hfl hR hg =>
  intro d e
  cases d <;> simp only [V.ren,D.rloc.injEq,reduceCtorEq] at e
  obtain ⟨rfl,rfl,rfl,rfl⟩:=e
  exact .rloc _ _ _ _ b R ((hf _).trans hb) hfl hR hg
 | rstale a i g r off b hb hfl hg =>
  intro d e
  cases d <;> simp only [V.ren,D.rloc.injEq,reduceCtorEq] at e
  obtain ⟨rfl,rfl,rfl,rfl⟩:=e
  exact .rstale a _ _ _ _ b ((hf _).trans hb) hfl hg
 | sl a c i g off len b hb hfl hg hc hl hn ha =>
  intro d e
  cases d <;> simp only [V.ren,D.sl.injEq,reduceCtorEq] at e
  obtain ⟨rfl,rfl,rfl,rfl⟩:=e
  exact .sl a c _ _ _ _ b ((hf _).trans hb) hfl hg hc hl hn ha
 | mstale a c i g off len b hb hfl hg =>
  intro d e
  cases d <;> simp only [V.ren,D.sl.injEq,reduceCtorEq] at e
  obtain ⟨rfl,rfl,rfl,rfl⟩:=e
  exact .mstale a c _ _ _ _ b ((hf _).trans hb) hfl hg
 | und v=>intro d e;cases d <;> simp only [V.ren,reduceCtorEq] at e;exact .und v
 | skp=>intro d e;cases d <;> simp only [V.ren,reduceCtorEq] at e;exact .skp
 | tt=>intro d e;cases d <;> simp only [V.ren,reduceCtorEq] at e;exact .tt
 | ff=>intro d e;cases d <;> simp only [V.ren,reduceCtorEq] at e;exact .ff
 | bool b=>intro d e;cases d <;> simp only [V.ren,reduceCtorEq,D.bool.injEq] at e;subst e;exact .bool _
 | int k n=>intro d e;cases d <;> simp only [V.ren,reduceCtorEq,D.int.injEq] at e;obtain ⟨rfl,rfl⟩:=e;exact .int _ _
 | str s=>intro d e;cases d <;> simp only [V.ren,reduceCtorEq,D.str.injEq] at e;subst e;exact .str _
 | nilp=>intro d e;cases d <;> simp only [V.ren,reduceCtorEq] at e;exact .nilp
 | ro B off ds u hI h1 h _=>intro d e;cases d <;> simp only [V.ren,reduceCtorEq,D.ro.injEq] at e;subst e;exact .ro B off _ u hI h1 h
 | list0 a cap sz=>intro d e;cases d <;> simp only [V.ren,reduceCtorEq,D.list.injEq] at e;obtain ⟨rfl,rfl⟩:=e;exact .list0 a cap _
 | list B off cap sz rows u hc hrow hI h1 h _=>intro d e;cases d <;> simp only [V.ren,reduceCtorEq,D.list.injEq] at e;obtain ⟨rfl,rfl⟩:=e;exact .list B off cap _ _ u hc hrow hI h1 h
 | nils a=>intro d e;cases d <;> simp only [V.ren,reduceCtorEq] at e;exact .nils a
 | nilf=>intro d e;cases d <;> simp only [V.ren,reduceCtorEq] at e;exact .nilf
 | yld l=>intro d e;cases d <;> simp only [V.ren,reduceCtorEq,D.yld.injEq] at e;subst e;exact .yld _
 | nilm=>intro d e;cases d <;> simp only [V.ren,reduceCtorEq] at e;exact .nilm
 | mloc i b R hb hfl hR =>
  intro d e
  cases d <;> simp only [V.ren,D.mloc.injEq,reduceCtorEq] at e
  subst e
  exact .mloc _ b R ((hf _).trans hb) hfl hR
 | sit i b R hb hfl hR =>
  intro d e
  cases d <;> simp only [V.ren,D.sit.injEq,reduceCtorEq] at e
  subst e
  exact .sit _ b R ((hf _).trans hb) hfl hR
 | asl c i len b R hb hfl hR =>
  intro d e
  cases d <;> simp only [V.ren,D.asl.injEq,reduceCtorEq] at e
  obtain ⟨rfl,rfl⟩:=e
  exact .asl c _ _ b R ((hf _).trans hb) hfl hR
 | gp g off=>intro d e;cases d <;> simp only [V.ren,reduceCtorEq,D.gp.injEq] at e;obtain ⟨rfl,rfl⟩:=e;exact .gp _ _
 | mro R es ks vs hI hb hl hm h h' _ _=>intro d e;cases d <;> simp only [V.ren,reduceCtorEq,D.mro.injEq] at e;obtain ⟨rfl,rfl⟩:=e;exact .mro R es _ _ hI hb hl hm h h'

theorem RelL.unren {I:Imm} {β β':BE} {vs:List Value} {ds:List D} {f:Nat→Nat} (h:RelL I β' vs (renL f ds)) (hf:∀ i,β i=β' (f i)):RelL I β vs ds :=
 ⟨by have:=h.1;rw [renL_eq] at this;simpa using this,fun i v d hv hd=>(h.2 i v (ren f d) hv (by rw [renL_get,hd];rfl)).unren hf rfl⟩
theorem RelL.ren {I:Imm} {β β':BE} {vs:List Value} {ds:List D} {f:Nat→Nat} (h:RelL I β vs ds) (hf:∀ i b,β i=some b→β' (f i)=some b):RelL I β' vs (renL f ds) :=
 ⟨by rw [renL_eq];simpa using h.1,fun i v d hv hd=>by
  rw [renL_get] at hd
  cases hd':ds[i]? with
  | none=>rw [hd'] at hd;cases hd
  | some d'=>rw [hd'] at hd;cases hd;exact (h.2 i v d' hv hd').ren hf⟩

theorem BoxRel.ren {I:Imm} {β β':BE} {w:World} {b:BI} {box:Box} (h:BoxRel I β w b box) {f:Nat→Nat} (hf:∀ i b,β i=some b→β' (f i)=some b):BoxRel I β' w b (box.ren f):=by
 cases box with
 | flat fz cells =>
  obtain ⟨h1,R,c,t,h2,h3,h4⟩:=h
  exact ⟨h1,R,c,t,h2,h3,h4.1.ren hf,h4.2⟩
 | rows fz g sz rs=>exact h
 | map fz ks vs=>exact h
 | siter fz s pos=>exact h
 | miter fz i ks vs seen =>
  obtain ⟨h1,R,bm,Rm,es,clock,since,c0,sn,h2,h3,h4⟩:=h
  exact ⟨h1,R,bm,Rm,es,clock,since,c0,sn,h2,hf i bm h3,h4⟩
theorem BoxRel.unren {I:Imm} {β β':BE} {w:World} {b:BI} {box:Box} {f:Nat→Nat} (h:BoxRel I β' w b (box.ren f)) (hf:∀ i,β i=β' (f i)):BoxRel I β w b box:=by
 cases box with
 | flat fz cells =>
  obtain ⟨h1,R,c,t,h2,h3,h4⟩:=h
  exact ⟨h1,R,c,t,h2,h3,h4.1.unren hf,h4.2⟩
 | rows fz g sz rs=>exact h
 | map fz ks vs=>exact h
 | siter fz s pos=>exact h
 | miter fz i ks vs seen =>
  obtain ⟨h1,R,bm,Rm,es,clock,since,c0,sn,h2,h3,h4⟩:=h
  exact ⟨h1,R,bm,Rm,es,clock,since,c0,sn,h2,(hf i).trans h3,h4⟩

theorem distinctB_get:∀ {sel:List Nat},distinctB sel=true→∀ {i j k:Nat},sel[i]?=some k→sel[j]?=some k→i=j
 | [],_,i,j,k,h,_=>by simp at h
 | x::r,hd,i,j,k,hi,hj=>by
  simp only [distinctB] at hd
  split at hd
  ·cases hd
  ·rename_i hc
   have hn:x ∉ r:=fun h=>by rw [List.contains_iff_mem.2 h] at hc;cases hc
   cases i with
   | zero =>
    cases j with
    | zero=>rfl
    | succ j =>
     simp at hi hj
     subst hi
     exact absurd (List.mem_of_getElem? hj) hn
   | succ i =>
    cases j with
    | zero =>
     simp at hi hj
     subst hj
     exact absurd (List.mem_of_getElem? hi) hn
    | succ j=>have:=distinctB_get hd (i:=i) (j:=j) (k:=k) (by simpa using hi) (by simpa using hj);omega

structure SelOK (sel:List Nat) (n:Nat):Prop where
 inj:∀ {i j k:Nat},sel[i]?=some k→sel[j]?=some k→i=j
 lt:∀ {i k:Nat},sel[i]?=some k→k<n

theorem selOK_spec {sel:List Nat} {n:Nat} (h:selOK sel n=true):SelOK sel n:=by
 unfold selOK at h
 rw [Bool.and_eq_true] at h
 exact ⟨distinctB_get h.1,fun {i k} hi=>by
  have:=List.all_eq_true.1 h.2 k (List.mem_of_getElem? hi)
  exact Nat.blt_eq ▸ this⟩

theorem selF_in {sel:List Nat} {n i k:Nat} (h:sel[i]?=some k):selF sel n i=k:=by unfold selF;rw [h]
theorem selF_out {sel:List Nat} {n i:Nat} (h:sel.length≤i):selF sel n i=n+(i - sel.length):=by
 unfold selF;rw [List.getElem?_eq_none h]

theorem selF_inj {sel:List Nat} {n:Nat} (h:SelOK sel n) {i j:Nat} (e:selF sel n i=selF sel n j):i=j:=by
 cases hi:sel[i]? with
 | some k =>
  rw [selF_in hi] at e
  cases hj:sel[j]? with
  | some m=>rw [selF_in hj] at e;subst e;exact h.inj hi hj
  | none =>
   rw [selF_out (by simpa using hj)] at e
   have:=h.lt hi
   omega
 | none =>
  have h1:sel.length≤i:=by simpa using hi
  rw [selF_out h1] at e
  cases hj:sel[j]? with
  | some m=>rw [selF_in hj] at e;have:=h.lt hj;omega
  | none =>
   have h2:sel.length≤j:=by simpa using hj
   rw [selF_out h2] at e
   omega

theorem getSel_get:∀ {sel:List Nat} {bs:List Box} {i:Nat},(getSel bs sel)[i]?=(sel[i]?).map fun k=>bs[k]?
 | [],bs,i=>by simp [getSel]
 | x::r,bs,i=>by
  cases i with
  | zero=>simp [getSel]
  | succ i=>simp only [getSel,List.getElem?_cons_succ];exact getSel_get
theorem getSel_len:∀ (sel:List Nat) (bs:List Box),(getSel bs sel).length=sel.length
 | [],_=>rfl
 | x::r,bs=>by simp [getSel,getSel_len r bs]

theorem putSel_len:∀ {sel:List Nat} {bs l:List Box},sel.length≤l.length→(putSel bs sel l).length=bs.length+(l.length - sel.length)
 | [],bs,l,_=>by simp [putSel]
 | i::sel,bs,b::l,h=>by
  simp only [putSel]
  rw [putSel_len (by simpa using h)]
  simp
 | i::sel,bs,[],h=>by simp at h

theorem putSel_other:∀ {sel:List Nat} {bs l:List Box} {k:Nat},sel.length≤l.length→(∀ i:Nat,sel[i]?≠some k)→k<bs.length→(putSel bs sel l)[k]?=bs[k]?
 | [],bs,l,k,_,_,hk=>by simp only [putSel];rw [List.getElem?_append_left hk]
 | x::sel,bs,b::l,k,h,hk,hl=>by
  simp only [putSel]
  rw [putSel_other (by simpa using h) (fun i=>by have:=hk (i+1);simpa using this) (by simpa using hl)]
  have:=hk 0
  simp at this
  rw [List.getElem?_set_ne this]
 | x::sel,bs,[],k,h,_,_=>by simp at h

theorem putSel_new:∀ {sel:List Nat} {bs l:List Box} {i:Nat},sel.length≤l.length→(putSel bs sel l)[bs.length+i]?=l[sel.length+i]?
 | [],bs,l,i,_=>by simp only [putSel];rw [List.getElem?_append_right (by omega)];simp
 | x::sel,bs,b::l,i,h=>by
  simp only [putSel]
  have:=putSel_new (sel:=sel) (bs:=bs.set x b) (l:=l) (i:=i) (by simpa using h)
  simp only [List.length_set] at this
  rw [this]
  rw [show (x::sel).length+i=sel.length+i+1 by simp;omega]
  rfl
 | x::sel,bs,[],i,h=>by simp at h

theorem putSel_sel:∀ {sel:List Nat} {bs l:List Box} {j k:Nat},SelOK sel bs.length→sel.length≤l.length→sel[j]?=some k→(putSel bs sel l)[k]?=l[j]?
 | [],bs,l,j,k,_,_,hj=>by simp at hj
 | x::sel,bs,b::l,j,k,hs,h,hj=>by
  simp only [putSel]
  have hs':SelOK sel (bs.set x b).length:=⟨fun {i j k} hi hj=>by
      have:=hs.inj (i:=i+1) (j:=j+1) (k:=k) (by simpa using hi) (by simpa using hj)
      omega,fun {i k} hi=>by have:=hs.lt (i:=i+1) (k:=k) (by simpa using hi);simpa using this⟩
  cases j with
  | zero =>
   simp at hj
   subst hj
   rw [putSel_other (by simpa using h) (fun i hi=>by have:=hs.inj (i:=i+1) (j:=0) (k:=x) (by simpa using hi) rfl;omega) (by have:=hs.lt (i:=0) (k:=x) rfl;simpa using this)]
   rw [List.getElem?_set_self (hs.lt (i:=0) (k:=x) rfl)]
   rfl
  | succ j =>
   rw [putSel_sel hs' (by simpa using h) (by simpa using hj)]
   rfl
 | x::sel,bs,[],j,k,_,h,_=>by simp at h

theorem putSel_get {sel:List Nat} {bs l:List Box} (hs:SelOK sel bs.length) (h:sel.length≤l.length) (i:Nat):(putSel bs sel l)[selF sel bs.length i]?=l[i]?:=by
 cases hi:sel[i]? with
 | some k=>rw [selF_in hi];exact putSel_sel hs h hi
 | none =>
  have h1:sel.length≤i:=by simpa using hi
  rw [selF_out h1,putSel_new h]
  congr 1
  omega

theorem noFz_mem:∀ {bs:List Box},noFz bs=true→∀ b∈bs,b.fz=false
 | [],_,b,hb=>by cases hb
 | x::r,h,b,hb=>by
  simp only [noFz] at h
  split at h
  ·cases h
  ·rename_i hx
   rcases List.mem_cons.1 hb with rfl | hb
   ·exact hx
   ·exact noFz_mem h b hb

theorem selOKB_spec {sel:List Nat} {bs:List Box} (h:selOKB sel bs=true):selOK sel bs.length=true∧∀ i∈sel,noMit i bs=true:=by
 unfold selOKB at h
 split at h
 ·rename_i h1
  exact ⟨h1,fun i hi=>List.all_eq_true.1 h i hi⟩
 ·cases h

theorem Box.ren_fz (f:Nat→Nat) (b:Box):(b.ren f).fz=b.fz:=by cases b <;> rfl

/-! ### The call -/

section
variable {P:Program} [Glb] {sh:Kinds} {ish:Nat→Bool} {T:Nat→Option TI} {cx:Cx} {σ:St} {β:BE} {I:Imm} {S:Nat→Prop} {N:Nat} {a:Act} {w:World}

def Fixed (cx:Cx) (I:Imm) (k:Nat):Prop:=¬ cx.old k∧∃ off v,I k off=some v

def Cx.inCall (cx:Cx) (X:Nat→Prop) (wX:World) (I:Imm) (m:Nat) (β0:BE):Cx where
 old:=fun k=>cx.old k∨Fixed cx I k
 Fr:=fun w=>cx.Fr w∧Keep (Fixed cx I) wX w
 J:=fun y Sx w=>∃ S,cx.J y S w∧(∀ k,Sx k↔(S k∨X k))∧(∀ k,S k→¬ X k)∧(∀ k,X k→k<wX.heap.size)∧Keep X wX w∧(∀ B off v,I B off=some v→¬ cx.old B→¬ S B)
 I0:=I
 G:=fun _ _=>False
 lo:=m
 b0:=β0
 dfr:=fun _=>False

variable {X:Nat→Prop} {wX:World} {m:Nat} {β0:BE}

theorem Cx.inCall_ok (hcx:cx.Ok) (hI0:cx.I0.le I) (hb:∀ i b,β0 i=some b→i<m):(cx.inCall X wX I m β0).Ok where
 gl:=Imm.le_trans hcx.gl hI0
 fr:=fun _ _ h k=>⟨hcx.fr _ _ h.1 (k.mono fun _ hB=>.inl hB),h.2.trans (k.mono fun _ hB=>.inr hB)⟩
 j:=fun _ _ _ _ ⟨S,h1,h2,h3,h4,h5,h6⟩ k=>⟨S,hcx.j _ _ _ _ h1 (k.mono fun B hB=>(h2 B).2 (.inl hB)),h2,h3,h4,h5.trans (k.mono fun B hB=>(h2 B).2 (.inr hB)),h6⟩
 g:=fun _ _ h=>h.elim
 b:=hb
 d:=fun _ h=>h.elim

omit [Glb] in
theorem YArgs.sub {old old' S S':Nat→Prop} {I0 I0':Imm} {w:World} {vs:List Value} {x:List D} {G:Nat→Prop} (h:YArgs old S I0 I w vs x G) (ho:∀ B,old' B→old B) (hS:∀ B,S' B→S B) (hI:I0'.le I0):YArgs old' S' I0' I w vs x G:=by
 cases h with
 | plain vs x h=>exact .plain vs x h
 | give R es clock ks us hR hc hm hk hu h1 h2 h3 =>
  refine .give R es clock ks us hR hc hm hk hu (fun h=>h1 (ho R h)) (fun h=>h2 (hS R h)) fun off=>?_
  cases hv:I0' R off with
  | none=>rfl
  | some v=>have:=hI R off v hv;rw [h3 off] at this;cases this
omit [Glb] in
theorem YArgs.out {old S:Nat→Prop} {I0:Imm} {w:World} {vs:List Value} {x:List D} {G:Nat→Prop} (h:YArgs old S I0 I w vs x G):∀ B,G B→¬ old B∧¬ S B∧∀ off,I0 B off=none:=by
 cases h with
 | plain vs x h=>exact fun _ h=>h.elim
 | give R es clock ks us hR hc hm hk hu h1 h2 h3=>rintro B rfl;exact ⟨h1,h2,h3⟩

omit [Glb] in
theorem Cx.inCall_yield (hy:YieldOK P cx) (hI0:cx.I0.le I) (hold:∀ B off,cx.old B→I B off=cx.I0 B off):YieldOK P (cx.inCall X wX I m β0):=by
 rintro l x r Sx w I' vs G ⟨S,h1,h2,h3,h4,h5,h6⟩ hfr hag hn0 hS hagI hrel
 have hG:=hrel.out
 obtain ⟨f,tmps,assign,body,hrun,hround⟩:=hy l x r S w I' vs G h1 hfr.1 (fun B off v hv=>hag B off v (hI0 B off v hv)) (fun k hk=>hn0 k (.inl hk)) (fun B hB=>hS B ((h2 B).2 (.inl hB))) hagI (hrel.sub (fun B h=>.inl h) (fun B h=>(h2 B).2 (.inl h)) hI0)
 refine ⟨f,tmps,assign,body,hrun,hround.mono ?_⟩
 rintro e w' ⟨b,S'',rfl,hj,hk,hs1,hs2,hag',hfr'⟩
 have hXk:∀ k,X k→k<w.heap.size∧¬ S k∧¬ G k:=fun k hk=>⟨hS k ((h2 k).2 (.inr hk)),fun hs=>h3 k hs hk,fun hg=>(hG k hg).2.1 ((h2 k).2 (.inr hk))⟩
 refine ⟨b,fun k=>S'' k∨X k,rfl,⟨S'',hj,fun k=>Iff.rfl,?_,h4,h5.trans (hk.mono hXk),?_⟩,hk.mono fun k hk'=>⟨hk'.1,fun hs=>hk'.2.1 ((h2 k).2 (.inl hs)),hk'.2.2⟩,?_,?_,?_,hfr',?_⟩
 ·intro k hk' hx
  rcases hs1 k hk' with h | h | h
  ·exact h3 k h hx
  ·have:=(hXk k hx).1;omega
  ·exact (hXk k hx).2.2 h
 ·intro B off v hv hB hs
  rcases hs1 B hs with h | h | h
  ·exact h6 B off v hv hB h
  ·have:=cell_lt (hag B off v hv);omega
  ·exact (hG B h).1 (.inr ⟨hB,off,v,hv⟩)
 ·rintro B (hB | hB)
  ·rcases hs1 B hB with h | h | h
   ·exact .inl ((h2 B).2 (.inl h))
   ·exact .inr (.inl h)
   ·exact .inr (.inr h)
  ·exact .inl ((h2 B).2 (.inr hB))
 ·rintro B (hB | hB)
  ·exact hs2 B hB
  ·exact Nat.lt_of_lt_of_le (hXk B hB).1 hk.size
 ·intro B off v hv
  by_cases hB:cx.old B
  ·exact hag' B off v (by rw [← hold B off hB];exact hv)
  ·have h7:=hag B off v hv
   rw [hk.cell ⟨cell_lt h7,h6 B off v hv hB,fun hg=>(hG B hg).1 (.inr ⟨hB,off,v,hv⟩)⟩]
   exact h7
 ·exact hfr.2.trans (hk.mono fun k ⟨ho,off,v,hv⟩=>⟨cell_lt (hag k off v hv),h6 k off v hv ho,fun hg=>(hG k hg).1 (.inr ⟨ho,off,v,hv⟩)⟩)

theorem share_call (hcx:cx.Ok) (hy:YieldOK P cx) (hs:Sim cx (fun _=>True) σ β I S N a w) (htot:∀ i,i<σ.boxes.length→(β i).isSome=true) {sel:List Nat} (hselBB:selOKB sel σ.boxes=true) {fk:FuncId} {args':List D} {bs0:List Box} {Q:D→List Box→Yst→Prop}
    {vs:List Value} (hrel:RelL I β vs (renL (selF sel σ.boxes.length) args')) (hbs:bs0.map (fun b=>some (b.ren (selF sel σ.boxes.length)))=getSel σ.boxes sel) (hfz:noFz bs0=true) (hden:DenY P fk args' bs0 σ.y Q) :
    Calls P fk vs.toArray w fun e w'=>∃ v d bs' y',e=.returned v∧Q d bs' y'∧∃ β' I' S',Sim cx (fun _=>True) ⟨σ.tmps,putSel σ.boxes sel (bs'.map (Box.ren (selF sel σ.boxes.length))),y'⟩ β' I' S' N a w' ∧
     (∀ i,i<(putSel σ.boxes sel (bs'.map (Box.ren (selF sel σ.boxes.length)))).length→(β' i).isSome=true)∧Rel I' β' v (ren (selF sel σ.boxes.length) d):=by
  obtain ⟨hselB,hnm⟩:=selOKB_spec hselBB
  have hsel:=selOK_spec hselB
  obtain ⟨n,hn⟩:∃ n,σ.boxes.length=n:=⟨_,rfl⟩
  rw [hn] at hrel hbs hsel ⊢
  obtain ⟨f,hf⟩:∃ f,selF sel n=f:=⟨_,rfl⟩
  have hfin:∀ {i k:Nat},sel[i]?=some k→f i=k:=fun {i k} h=>by rw [← hf];exact selF_in h
  have hfout:∀ {i:Nat},sel.length≤i→f i=n+(i - sel.length):=fun {i} h=>by rw [← hf];exact selF_out h
  have hinj:∀ {i j:Nat},f i=f j→i=j:=fun {i j} e=>selF_inj hsel (by rw [hf];exact e)
  rw [hf] at hrel hbs ⊢
  have hlast:∀ i b,β i=some b→i<n:=fun i b hb=>by
   obtain ⟨box,h1,_⟩:=hs.bx i b hb
   rw [← hn];exact (List.getElem?_eq_some_iff.1 h1).1
  have hdom:∀ i b,β (f i)=some b→i<sel.length:=fun i b hb=>by
   rcases Nat.lt_or_ge i sel.length with h | h
   ·exact h
   ·have:=hlast _ b hb
    rw [hfout h] at this
    omega
  have hl0:bs0.length=sel.length:=by
   have:=congrArg List.length hbs
   rw [List.length_map,getSel_len] at this
   exact this
  have hget:∀ {i k:Nat},sel[i]?=some k→∃ b0,bs0[i]?=some b0∧σ.boxes[k]?=some (b0.ren f):=fun {i k} hi=>by
   have h1:bs0[i]?=some (bs0[i]'(by rw [hl0];exact (List.getElem?_eq_some_iff.1 hi).1)):=List.getElem?_eq_getElem _
   refine ⟨_,h1,?_⟩
   have:=congrArg (·[i]?) hbs
   simp only [List.getElem?_map,getSel_get,h1,hi,Option.map_some,Option.some.injEq] at this
   exact this.symm
  -- the blocks that are handed over,and those that are not to be touched
  obtain ⟨Xs,hXs⟩:∃ Xs:Nat→Prop,Xs=fun R=>∃ i b,β (f i)=some b∧b.R=some R:=⟨_,rfl⟩
  have hXs:∀ R,Xs R↔∃ i b,β (f i)=some b∧b.R=some R:=fun R=>by rw [hXs]
  obtain ⟨X,hX⟩:∃ X:Nat→Prop,X=fun k=>k<w.heap.size∧¬ cx.old k∧¬ S k∧¬ Xs k∧¬ Fixed cx I k:=⟨_,rfl⟩
  have hX:∀ k,X k↔(k<w.heap.size∧¬ cx.old k∧¬ S k∧¬ Xs k∧¬ Fixed cx I k):=fun k=>by rw [hX]
  have hunf:∀ {i b R},β (f i)=some b→b.R=some R→¬ Fixed cx I R:=fun {i b R} hb hR hfx=>by
   obtain ⟨_,off,v,hv⟩:=hfx
   have hi:=hdom i b hb
   obtain ⟨k,hk⟩:∃ k,sel[i]?=some k:=⟨_,List.getElem?_eq_getElem hi⟩
   obtain ⟨b0,h1,h2⟩:=hget hk
   have:=hs.clear (f i) b R (b0.ren f) hb hR (by rw [hfin hk];exact h2) (by rw [Box.ren_fz];exact noFz_mem hfz b0 (List.mem_of_getElem? h1)) off
   rw [this] at hv;cases hv
  let cx1:=cx.inCall X w I sel.length (fun i=>β (f i))
  have hcx1:cx1.Ok:=Cx.inCall_ok hcx hs.I0 hdom
  have hy1:YieldOK P cx1:=Cx.inCall_yield hy hs.I0 hs.Iold
  have hp:Hp cx1 bs0 σ.y (fun i=>β (f i)) I (fun k=>S k∨X k) w:=by
   refine ⟨{ tm:=fun t d _ hl=>(by cases hl),sz:=rfl,agree:=hs.agree,bx:=fun i b hb=>?_,apart:=fun i j b c R hb hc hR hR'=>hinj (hs.apart _ _ b c R hb hc hR hR'),own:=fun i b R hb hR=>?_,clear:=fun i b R box hb hR hbox hfz'=>?_,fr:=⟨hs.fr,Keep.refl _ _⟩,n0:=fun k hk=>?_,I0:=Imm.le_refl _,Iold:=fun _ _ _=>rfl,j:=⟨S,hs.j,fun k=>Iff.rfl,fun k hk hx=>((hX k).1 hx).2.2.1 hk,fun k hk=>((hX k).1 hk).1,Keep.refl _ _,fun B off v hv hB=>hs.sI B off v hv hB⟩,sb:=fun B hB=>?_,sI:=fun B off v hv hB=>?_,gh:=fun _ _ h=>h.elim,le0:=BE.le_refl _,nd:=.nil,pres:=fun _ h=>h.elim,dn:=fun _ h=>h.elim,marks:=fun d hd=>(by cases hd) },fun i hi=>?_⟩
   ·have hi:=hdom i b hb
    obtain ⟨k,hk⟩:∃ k,sel[i]?=some k:=⟨_,List.getElem?_eq_getElem hi⟩
    obtain ⟨b0,h1,h2⟩:=hget hk
    obtain ⟨box,h3,h4⟩:=hs.bx (f i) b hb
    rw [hfin hk,h2] at h3
    cases h3
    exact ⟨b0,h1,h4.unren fun _=>rfl⟩
   ·obtain ⟨h1,h2⟩:=hs.own (f i) b R hb hR
    refine ⟨fun ho=>ho.elim h1 (hunf hb hR),fun ho=>ho.elim h2 fun hx=>((hX R).1 hx).2.2.2.1 ((hXs R).2 ⟨i,b,hb,hR⟩)⟩
   ·have hi:=hdom i b hb
    obtain ⟨k,hk⟩:∃ k,sel[i]?=some k:=⟨_,List.getElem?_eq_getElem hi⟩
    obtain ⟨b0,h1,h2⟩:=hget hk
    exact hs.clear (f i) b R (b0.ren f) hb hR (by rw [hfin hk];exact h2) (by rw [Box.ren_fz];exact noFz_mem hfz b0 (List.mem_of_getElem? h1))
   ·rcases hk with hk | ⟨_,off,v,hv⟩
    ·exact hs.n0 k hk
    ·exact cell_lt (hs.agree k off v hv)
   ·rcases hB with hB | hB
    ·exact hs.sb B hB
    ·exact ((hX B).1 hB).1
   ·by_cases ho:cx.old B
    ·exact absurd (.inl ho) hB
    ·exact absurd (.inr ⟨ho,off,v,hv⟩) hB
   ·have hi':i<sel.length:=by rw [← hl0];exact hi
    obtain ⟨k,hk⟩:∃ k,sel[i]?=some k:=⟨_,List.getElem?_eq_getElem hi'⟩
    show (β (f i)).isSome=true
    rw [hfin hk]
    exact htot k (by rw [hn];exact hsel.lt hk)
  refine (hden.2 cx1 w _ I _ vs hcx1 hy1 (by rw [hl0];exact Nat.le_refl _) hp (hrel.unren fun _=>rfl)).mono ?_
  rintro e w' ⟨v,d,bs',y',β1,I1,S1,rfl,hq,⟨hs1,htot1⟩,hv⟩
  obtain ⟨S2,hJ,hS1,hS2X,hXw,hkX,hSI⟩:=hs1.j
  obtain ⟨hfr,hkY⟩:=hs1.fr
  refine ⟨v,d,bs',y',rfl,hq,?_⟩
  have hll:sel.length≤(bs'.map (Box.ren f)).length:=by
   rw [List.length_map]
   rcases Nat.lt_or_ge bs'.length sel.length with h | h
   ·exfalso
    obtain ⟨k,hk⟩:∃ k,sel[bs'.length]?=some k:=⟨_,List.getElem?_eq_getElem h⟩
    have h1:=htot k (by rw [hn];exact hsel.lt hk)
    obtain ⟨b,hb⟩:=Option.isSome_iff_exists.1 h1
    obtain ⟨b',h2,_⟩:=hs1.le0 bs'.length b (by show β (f bs'.length)=some b;rw [hfin hk];exact hb)
    obtain ⟨box,h3,_⟩:=hs1.bx _ b' h2
    have:=(List.getElem?_eq_some_iff.1 h3).1
    exact Nat.lt_irrefl _ this
   ·exact h
  have hputf:∀ i,(putSel σ.boxes sel (bs'.map (Box.ren f)))[f i]?=(bs'[i]?).map (Box.ren f):=fun i=>by
   have:=putSel_get (sel:=sel) (bs:=σ.boxes) (l:=bs'.map (Box.ren f)) (by rw [hn];exact hsel) hll i
   rw [hn,hf] at this
   rw [this,List.getElem?_map]
  have hputo:∀ k,(∀ i,f i≠k)→k<n→(putSel σ.boxes sel (bs'.map (Box.ren f)))[k]?=σ.boxes[k]?:=fun k hk hkn =>
   putSel_other hll (fun i hi=>hk i (hfin hi)) (by rw [hn];exact hkn)
  have hputl:(putSel σ.boxes sel (bs'.map (Box.ren f))).length=n+(bs'.length - sel.length):=by
   rw [putSel_len hll,hn,List.length_map]
  -- where the boxes lie
  obtain ⟨β',hβ1,hβ2⟩:∃ β':BE,(∀ i,β' (f i)=β1 i)∧∀ k,(∀ i,f i≠k)→β' k=β k:=by
   classical
   refine ⟨fun k=>if h:∃ i,f i=k then β1 h.choose else β k,fun i=>?_,fun k hk=>?_⟩
   ·have h:∃ j,f j=f i:=⟨i,rfl⟩
    simp only [dif_pos h]
    rw [hinj h.choose_spec]
   ·simp only
    rw [dif_neg (fun ⟨i,hi⟩=>hk i hi)]
  have hcase:∀ k,(∃ i,f i=k)∨∀ i,f i≠k:=fun k=>by
   by_cases h:∃ i,f i=k
   ·exact .inl h
   ·exact .inr fun i hi=>h ⟨i,hi⟩
  have hle:β.le β':=fun k b hb=>by
   rcases hcase k with ⟨i,rfl⟩ | hk
   ·obtain ⟨b',h1,h2⟩:=hs1.le0 i b hb
    exact ⟨b',by rw [hβ1];exact h1,h2⟩
   ·exact ⟨b,by rw [hβ2 k hk];exact hb,.inl rfl⟩
  have hI:I.le I1:=hs1.I0
  -- a block that is another box's is as it was
  have hother:∀ {k b R},(∀ i,f i≠k)→β k=some b→b.R=some R→¬ Xs R∧w'.heap[R]?=w.heap[R]?:=fun {k b R} hk hb hR=>by
   have hnx:¬ Xs R:=fun hx=>by
    obtain ⟨i,c,hc,hcR⟩:=(hXs R).1 hx
    exact hk i (hs.apart _ _ c b R hc hb hcR hR)
   refine ⟨hnx,?_⟩
   obtain ⟨h1,h2⟩:=hs.own k b R hb hR
   by_cases hfx:Fixed cx I R
   ·exact hkY.block R hfx
   ·obtain ⟨box,_,h4⟩:=hs.bx k b hb
    obtain ⟨_,_,h5⟩:=h4.lt hR
    exact hkX.block R ((hX R).2 ⟨heap_lt h5,h1,h2,hnx,hfx⟩)
  have hmark:∀ d∈a.defers,¬ cx.dfr d→∃ R,d={ target:=.collected R,args:=#[] }∧w.heap[R]?=some (.deferred (some []))∧¬ cx.old R∧¬ S R∧X R:=fun d hd hD=>by
   obtain ⟨R,h1,h2,h3,h4⟩:=hs.marks d hd hD
   refine ⟨R,h1,h2,h3,h4,(hX R).2 ⟨heap_lt h2,h3,h4,fun hx=>?_,fun ⟨_,off,v,hv⟩=>?_⟩⟩
   ·obtain ⟨i,b,hb,hR⟩:=(hXs R).1 hx
    obtain ⟨box,_,h5⟩:=hs.bx _ b hb
    obtain ⟨_,hmem,h6⟩:=h5.lt hR
    rw [h2] at h6;cases h6;exact Bool.noConfusion hmem
   ·have:=hs.agree R off v hv
    simp [cellM,World.cell?,h2] at this
  refine ⟨β',I1,S2,{ tm:=fun t e _ hl=>?_,sz:=hs.sz,agree:=hs1.agree,bx:=fun k b hb=>?_,apart:=fun k j b c R hb hc hR hR'=>?_,own:=fun k b R hb hR=>?_,clear:=fun k b R box hb hR hbox hfz' off=>?_,fr:=hfr,n0:=fun k hk=>hs1.n0 k (.inl hk),I0:=Imm.le_trans hs.I0 hI,Iold:=fun B off hB=>(hs1.Iold B off (.inl hB)).trans (hs.Iold B off hB),j:=hJ,sb:=fun B hB=>hs1.sb B ((hS1 B).2 (.inl hB)),sI:=fun B off v hv hB hSB=>?_,gh:=fun v d hg=>(hs.gh v d hg).mono hI hle,le0:=BE.le_trans hs.le0 hle,nd:=hs.nd,pres:=hs.pres,dn:=hs.dn,marks:=fun d hd hD=>?_ },fun k hk=>?_,hv.ren fun i b hb=>by rw [hβ1];exact hb⟩
  ·obtain ⟨v,hv,hr⟩:=hs.tm t e trivial hl
   exact ⟨v,hv,hr.mono hI hle⟩
  ·rcases hcase k with ⟨i,rfl⟩ | hk
   ·rw [hβ1] at hb
    obtain ⟨box,h1,h2⟩:=hs1.bx i b hb
    exact ⟨box.ren f,by rw [hputf,h1];rfl,h2.ren fun i b hb=>by rw [hβ1];exact hb⟩
   ·rw [hβ2 k hk] at hb
    obtain ⟨box,h1,h2⟩:=hs.bx k b hb
    refine ⟨box,by rw [hputo k hk (hlast k b hb)];exact h1,h2.mono hI hle fun R hR=>?_⟩
    rcases hR with hR | hR
    ·exact (hother hk hb hR).2
    ·cases box with
     | miter fz j ks vs seen =>
      obtain ⟨bm,hbm,hRm⟩:=hR
      refine (hother (k:=j) (fun i hi=>?_) hbm hRm).2
      have hij:f i=j:=hi
      have hsj:sel[i]?=some j:=by
       rw [← hij] at hbm
       obtain ⟨k',hk'⟩:∃ k,sel[i]?=some k:=⟨_,List.getElem?_eq_getElem (hdom i bm hbm)⟩
       rw [hk',← hij,hfin hk']
      exact noMit_get (hnm j (List.mem_of_getElem? hsj)) h1 rfl
     | _=>exact hR.elim
  ·
   have hx:∀ {i k b c},β1 i=some b→(∀ i,f i≠k)→β k=some c→b.R=some R→c.R=some R→False:=fun {i k b c} hb hk hc hR hR'=>by
    obtain ⟨hnx,_⟩:=hother hk hc hR'
    obtain ⟨h1,h2⟩:=hs1.own i b R hb hR
    obtain ⟨h3,h4⟩:=hs.own k c R hc hR'
    obtain ⟨box,_,h5⟩:=hs.bx k c hc
    obtain ⟨_,_,h6⟩:=h5.lt hR'
    exact h2 ((hS1 R).2 (.inr ((hX R).2 ⟨heap_lt h6,h3,h4,hnx,fun hfx=>h1 (.inr hfx)⟩)))
   rcases hcase k with ⟨i,rfl⟩ | hk
   ·rw [hβ1] at hb
    rcases hcase j with ⟨i',rfl⟩ | hj
    ·rw [hβ1] at hc
     rw [hs1.apart i i' b c R hb hc hR hR']
    ·rw [hβ2 j hj] at hc
     exact (hx hb hj hc hR hR').elim
   ·rw [hβ2 k hk] at hb
    rcases hcase j with ⟨i',rfl⟩ | hj
    ·rw [hβ1] at hc
     exact (hx hc hk hb hR' hR).elim
    ·rw [hβ2 j hj] at hc
     exact hs.apart k j b c R hb hc hR hR'
  ·rcases hcase k with ⟨i,rfl⟩ | hk
   ·rw [hβ1] at hb
    obtain ⟨h1,h2⟩:=hs1.own i b R hb hR
    exact ⟨fun ho=>h1 (.inl ho),fun hS=>h2 ((hS1 R).2 (.inl hS))⟩
   ·rw [hβ2 k hk] at hb
    obtain ⟨h1,h2⟩:=hs.own k b R hb hR
    refine ⟨h1,fun hS=>?_⟩
    by_cases hfx:Fixed cx I R
    ·obtain ⟨_,off,v,hv⟩:=hfx
     exact hSI R off v hv h1 hS
    ·obtain ⟨box,_,h5⟩:=hs.bx k b hb
     obtain ⟨_,_,h6⟩:=h5.lt hR
     exact hS2X R hS ((hX R).2 ⟨heap_lt h6,h1,h2,(hother hk hb hR).1,hfx⟩)
  ·rcases hcase k with ⟨i,rfl⟩ | hk
   ·rw [hβ1] at hb
    rw [hputf] at hbox
    cases hb0:bs'[i]? with
    | none=>rw [hb0] at hbox;cases hbox
    | some b0 =>
     rw [hb0] at hbox
     cases hbox
     exact hs1.clear i b R b0 hb hR hb0 (by rw [← Box.ren_fz f];exact hfz') off
   ·rw [hβ2 k hk] at hb
    rw [hputo k hk (hlast k b hb)] at hbox
    cases hv:I1 R off with
    | none=>rfl
    | some u =>
     exfalso
     obtain ⟨h1,h2⟩:=hs.own k b R hb hR
     have hfx:¬ Fixed cx I R:=fun ⟨_,off',v,hv'⟩=>by rw [hs.clear k b R box hb hR hbox hfz' off'] at hv';cases hv'
     obtain ⟨box',_,h5⟩:=hs.bx k b hb
     obtain ⟨_,_,h6⟩:=h5.lt hR
     exact hs1.sI R off u hv (fun ho=>ho.elim h1 hfx) ((hS1 R).2 (.inr ((hX R).2 ⟨heap_lt h6,h1,h2,(hother hk hb hR).1,hfx⟩)))
  ·by_cases hfx:Fixed cx I B
   ·obtain ⟨_,off',v',hv'⟩:=hfx
    exact hSI B off' v' hv' hB hSB
   ·exact hs1.sI B off v hv (fun ho=>ho.elim hB hfx) ((hS1 B).2 (.inl hSB))
  ·obtain ⟨R,h1,h2,h3,h4,h5⟩:=hmark d hd hD
   exact ⟨R,h1,(hkX.block R h5).trans h2,h3,fun hS=>hS2X R hS h5⟩
  ·rw [hputl] at hk
   rcases hcase k with ⟨i,rfl⟩ | hk'
   ·rw [hβ1]
    refine htot1 i ?_
    rcases Nat.lt_or_ge i sel.length with h | h
    ·rw [List.length_map] at hll;omega
    ·rw [hfout h] at hk;rw [List.length_map] at hll;omega
   ·rw [hβ2 k hk']
    refine htot k ?_
    rcases Nat.lt_or_ge k n with h | h
    ·rw [hn];exact h
    ·exact absurd (by rw [hfout (by omega)];omega) (hk' (sel.length+(k - n)))

end
end Go.V

namespace Go.V
open Go.RowKit

def cutB (nb:Nat) (β:BE):BE:=fun i=>if i<nb then β i else none

theorem okAll_get {nb:Nat}:∀ {ds:List D} {i:Nat} {d:D},okAll nb ds=true→ds[i]?=some d→okAt nb d=true
 | [],i,d,_,h=>by simp at h
 | e::r,i,d,hp,h=>by
  simp only [okAll] at hp
  cases he:okAt nb e with
  | false=>rw [he] at hp;cases hp
  | true =>
   rw [he] at hp
   cases i with
   | zero=>simp at h;subst h;exact he
   | succ i=>exact okAll_get hp (by simpa using h)

theorem blt_lt {a b:Nat} (h:Nat.blt a b=true):a<b:=Nat.blt_eq ▸ h

theorem Rel.lowB {I:Imm} {β:BE} {v:Value} {d:D} (h:Rel I β v d) (nb:Nat):okAt nb d=true→Rel I (cutB nb β) v d:=by
 have hb:∀ {β:BE} {i:Nat} {b:BI},β i=some b→Nat.blt i nb=true→cutB nb β i=some b:=fun {β i b} h hi=>by
  unfold cutB;rw [if_pos (blt_lt hi)];exact h
 induction h with
 | und v=>intro _;exact .und v
 | skp=>intro _;exact .skp
 | tt=>intro _;exact .tt
 | ff=>intro _;exact .ff
 | bool b=>intro _;exact .bool b
 | int k n=>intro _;exact .int k n
 | str s=>intro _;exact .str s
 | agg cs ds hl h1 _ ih=>intro hp;exact .agg cs ds hl h1 fun i v d hv hd=>ih i v d hv hd (okAll_get (by simpa [okAt] using hp) hd)
 | tup cs ds hl _ ih=>intro hp;exact .tup cs ds hl fun i v d hv hd=>ih i v d hv hd (okAll_get (by simpa [okAt] using hp) hd)
 | nilp=>intro _;exact .nilp
 | loc i off b R hβ hf hR=>intro hp;exact .loc i off b R (hb hβ (by simpa only [okAt] using hp)) hf hR
 | aloc i off b R hβ hf hR=>intro hp;exact .aloc i off b R (hb hβ (by simpa only [okAt] using hp)) hf hR
 | rloc i g r off b R hβ hf hR hg=>intro hp;exact .rloc i g r off b R (hb hβ (by simpa only [okAt] using hp)) hf hR hg
 | rstale a i g r off b hβ hf hg=>intro hp;exact .rstale a i g r off b (hb hβ (by simpa only [okAt] using hp)) hf hg
 | ro B off ds u hI h1 h _=>intro _;exact .ro B off ds u hI h1 h
 | list0 a cap sz=>intro _;exact .list0 a cap sz
 | list B off cap sz rows u hc hrow hI h1 h _=>intro _;exact .list B off cap sz rows u hc hrow hI h1 h
 | nils a=>intro _;exact .nils a
 | sl a c i g off len b hβ hf hg hc hl hn ha=>intro hp;exact .sl a c i g off len b (hb hβ (by simpa only [okAt] using hp)) hf hg hc hl hn ha
 | mstale a c i g off len b hβ hf hg=>intro hp;exact .mstale a c i g off len b (hb hβ (by simpa only [okAt] using hp)) hf hg
 | clo fn vs us ds es hl hm _ _ ih ih' =>
  intro hp
  simp only [okAt] at hp
  cases hd:okAll nb ds with
  | false=>rw [hd] at hp;cases hp
  | true =>
   rw [hd] at hp
   exact .clo fn vs us ds es hl hm (fun i v d hv hd'=>ih i v d hv hd' (okAll_get hd hd')) fun i v d hv hd'=>ih' i v d hv hd' (okAll_get hp hd')
 | nilf=>intro _;exact .nilf
 | yld l=>intro _;exact .yld l
 | nilm=>intro _;exact .nilm
 | mloc i b R hβ hf hR=>intro hp;exact .mloc i b R (hb hβ (by simpa only [okAt] using hp)) hf hR
 | sit i b R hβ hf hR=>intro hp;exact .sit i b R (hb hβ (by simpa only [okAt] using hp)) hf hR
 | asl c i len b R hβ hf hR=>intro hp;exact .asl c i len b R (hb hβ (by simpa only [okAt] using hp)) hf hR
 | gp g off=>intro _;exact .gp g off
 | mro R es ks vs hI hbo hl hm h h' _ _=>intro _;exact .mro R es ks vs hI hbo hl hm h h'

mutual
theorem okAt_mono {n m:Nat} (h:n≤m):∀ {d:D},okAt n d=true→okAt m d=true
 | .agg cs,hd=>by simp only [okAt] at hd ⊢;exact okAll_mono h hd
 | .tup cs,hd=>by simp only [okAt] at hd ⊢;exact okAll_mono h hd
 | .clo f fs cs,hd=>by
  simp only [okAt] at hd ⊢
  cases h1:okAll n fs with
  | false=>rw [h1] at hd;cases hd
  | true=>rw [h1] at hd;rw [okAll_mono h h1];exact okAll_mono h hd
 | .loc i o,hd | .aloc i o,hd=>by simp only [okAt] at hd ⊢;rw [Nat.blt_eq] at *;omega
 | .rloc i g r o,hd=>by simp only [okAt] at hd ⊢;rw [Nat.blt_eq] at *;omega
 | .sl i g o l,hd=>by simp only [okAt] at hd ⊢;rw [Nat.blt_eq] at *;omega
 | .mloc i,hd=>by simp only [okAt] at hd ⊢;rw [Nat.blt_eq] at *;omega
 | .sit i,hd=>by simp only [okAt] at hd ⊢;rw [Nat.blt_eq] at *;omega
 | .asl i _,hd=>by simp only [okAt] at hd ⊢;rw [Nat.blt_eq] at *;omega
 | .nilm,_ | .mro _ _,_ | .gp _ _,_ | .gmap _ _,_=>rfl
 | .und,_ | .tt,_ | .ff,_ | .bool _,_ | .int _ _,_ | .str _,_ | .nilp,_ | .ro _,_ | .list _ _,_ | .nils,_ | .nilf,_ | .skp,_ | .yld _,_=>rfl
theorem okAll_mono {n m:Nat} (h:n≤m):∀ {ds:List D},okAll n ds=true→okAll m ds=true
 | [],_=>rfl
 | d::r,hd=>by
  simp only [okAll] at hd ⊢
  cases h1:okAt n d with
  | false=>rw [h1] at hd;cases hd
  | true=>rw [h1] at hd;rw [okAt_mono h h1];exact okAll_mono h hd
end

theorem okTmps_look {nb:Nat}:∀ {tm:List (Nat × D)} {t:Nat} {d:D},okTmps nb tm=true→look tm t=some d→okAt nb d=true
 | [],_,_,_,h=>by cases h
 | (k,e)::r,t,d,ho,h=>by
  simp only [okTmps] at ho
  cases he:okAt nb e with
  | false=>rw [he] at ho;cases ho
  | true =>
   rw [he] at ho
   simp only [look] at h
   cases hk:Nat.beq k t with
   | true=>rw [hk] at h;cases h;exact he
   | false=>rw [hk] at h;exact okTmps_look ho h

theorem okBoxes_get {nb:Nat}:∀ {bs:List Box} {i:Nat} {fz:Bool} {cs:List D},okBoxes nb bs=true→bs[i]?=some (.flat fz cs)→okAll nb cs=true
 | [],_,_,_,_,h=>by simp at h
 | .flat f ds::r,i,fz,cs,ho,h=>by
  simp only [okBoxes] at ho
  cases hd:okAll nb ds with
  | false=>rw [hd] at ho;cases ho
  | true =>
   rw [hd] at ho
   cases i with
   | zero=>simp at h;rw [← h.2];exact hd
   | succ i=>exact okBoxes_get ho (by simpa using h)
 | .rows ..::r,i,fz,cs,ho,h=>by
  simp only [okBoxes] at ho
  cases i with
  | zero=>simp at h
  | succ i=>exact okBoxes_get ho (by simpa using h)
 | .map ..::r,i,fz,cs,ho,h=>by
  simp only [okBoxes] at ho
  cases i with
  | zero=>simp at h
  | succ i=>exact okBoxes_get ho (by simpa using h)
 | .siter ..::r,i,fz,cs,ho,h=>by
  simp only [okBoxes] at ho
  cases i with
  | zero=>simp at h
  | succ i=>exact okBoxes_get ho (by simpa using h)
 | .miter _ j _ _ _::r,i,fz,cs,ho,h=>by
  simp only [okBoxes] at ho
  cases hj:Nat.blt j nb with
  | false=>rw [hj] at ho;cases ho
  | true =>
   rw [hj] at ho
   cases i with
   | zero=>simp at h
   | succ i=>exact okBoxes_get ho (by simpa using h)

theorem okBoxes_mit {nb:Nat}:∀ {bs:List Box} {i:Nat} {fz:Bool} {j:Nat} {ks vs:List D} {seen:List Nat},okBoxes nb bs=true→bs[i]?=some (.miter fz j ks vs seen)→j<nb
 | [],_,_,_,_,_,_,_,h=>by simp at h
 | .flat f ds::r,i,fz,j,ks,vs,seen,ho,h=>by
  simp only [okBoxes] at ho
  cases hd:okAll nb ds with
  | false=>rw [hd] at ho;cases ho
  | true =>
   rw [hd] at ho
   cases i with
   | zero=>simp at h
   | succ i=>exact okBoxes_mit ho (by simpa using h)
 | .rows ..::r,i,fz,j,ks,vs,seen,ho,h=>by
  simp only [okBoxes] at ho
  cases i with
  | zero=>simp at h
  | succ i=>exact okBoxes_mit ho (by simpa using h)
 | .map ..::r,i,fz,j,ks,vs,seen,ho,h=>by
  simp only [okBoxes] at ho
  cases i with
  | zero=>simp at h
  | succ i=>exact okBoxes_mit ho (by simpa using h)
 | .siter ..::r,i,fz,j,ks,vs,seen,ho,h=>by
  simp only [okBoxes] at ho
  cases i with
  | zero=>simp at h
  | succ i=>exact okBoxes_mit ho (by simpa using h)
 | .miter _ j' _ _ _::r,i,fz,j,ks,vs,seen,ho,h=>by
  simp only [okBoxes] at ho
  cases hj:Nat.blt j' nb with
  | false=>rw [hj] at ho;cases ho
  | true =>
   rw [hj] at ho
   cases i with
   | zero=>simp at h;rw [← h.2.1];exact blt_lt hj
   | succ i=>exact okBoxes_mit ho (by simpa using h)

theorem keepT_look {tm:List (Nat × D)}:∀ {l:List Nat} {t:Nat} {d:D},look (keepT tm l) t=some d→look tm t=some d
 | [],_,_,h=>by cases h
 | u::r,t,d,h=>by
  simp only [keepT] at h
  cases hu:look tm u with
  | none=>rw [hu] at h;exact keepT_look h
  | some e =>
   rw [hu] at h
   simp only [look] at h
   cases hk:Nat.beq u t with
   | true=>rw [hk] at h;cases h;rw [← Nat.eq_of_beq_eq_true hk];exact hu
   | false=>rw [hk] at h;exact keepT_look h

theorem lowT_look {nb:Nat}:∀ {tm:List (Nat × D)} {t:Nat} {d:D},look (lowT nb tm) t=some d→(look tm t=some d∧okAt nb d=true)∨(d=.und∧∃ e,look tm t=some e)
 | [],_,_,h=>by cases h
 | (k,e)::r,t,d,h=>by
  simp only [lowT] at h
  cases he:okAt nb e with
  | true =>
   rw [he] at h
   simp only [look] at h ⊢
   cases hk:Nat.beq k t with
   | true=>rw [hk] at h;cases h;exact .inl ⟨rfl,he⟩
   | false=>rw [hk] at h;exact lowT_look h
  | false =>
   rw [he] at h
   simp only [look] at h ⊢
   cases hk:Nat.beq k t with
   | true=>rw [hk] at h;cases h;exact .inr ⟨rfl,e,rfl⟩
   | false=>rw [hk] at h;exact lowT_look h

section
variable {P:Program} [Glb] {T:Nat→Option TI} {cx:Cx} {V:Nat→Prop} {σ:St} {β:BE} {I:Imm} {S:Nat→Prop} {N:Nat} {a:Act} {w:World}

omit [Glb] in
theorem BoxRel.lowB {b:BI} {box:Box} (h:BoxRel I β w b box) {nb:Nat} (hok:∀ fz cs,box=.flat fz cs→okAll nb cs=true) (hom:∀ fz j ks vs seen,box=.miter fz j ks vs seen→j<nb):BoxRel I (cutB nb β) w b box:=by
 cases box with
 | rows fz g sz rs=>exact h
 | map fz ks vs=>exact h
 | siter fz s pos=>exact h
 | miter fz j ks vs seen =>
  obtain ⟨hf,R,bm,Rm,es,clock,since,c0,sn,hR,hbm,h⟩:=h
  exact ⟨hf,R,bm,Rm,es,clock,since,c0,sn,hR,by unfold cutB;rw [if_pos (hom _ _ _ _ _ rfl)];exact hbm,h⟩
 | flat fz cs =>
  obtain ⟨hf,R,c,t,hR,hh,hr⟩:=h
  exact ⟨hf,R,c,t,hR,hh,⟨hr.1.1,fun i v d hv hd=>(hr.1.2 i v d hv hd).lowB nb (okAll_get (hok fz cs rfl) hd)⟩,hr.2⟩

omit [Glb] in
theorem le_cut {β0 β:BE} {nb:Nat} (h:β0.le β) (hb:∀ i b,β0 i=some b→i<nb):β0.le (cutB nb β):=fun i b hi=>by
 obtain ⟨b',h1,h2⟩:=h i b hi
 exact ⟨b',by unfold cutB;rw [if_pos (hb i b hi)];exact h1,h2⟩

theorem Sim.cut (hcx:cx.Ok) (h:Sim cx V σ β I S N a w) {nb:Nat} (hlo:cx.lo≤nb) {tm:List (Nat × D)} (htm:∀ t d,V t→look tm t=some d→∃ v,a.tmps[t]?=some v∧Rel I (cutB nb β) v d) (hb:okBoxes nb (σ.boxes.take nb)=true) :
    Sim cx V ⟨tm,σ.boxes.take nb,σ.y⟩ (cutB nb β) I S N a w:=by
  have hβ:∀ {i b},cutB nb β i=some b→i<nb∧β i=some b:=fun {i b} hi=>by
   unfold cutB at hi
   by_cases h:i<nb
   ·rw [if_pos h] at hi;exact ⟨h,hi⟩
   ·rw [if_neg h] at hi;cases hi
  refine { h with tm:=htm,bx:=?_,apart:=?_,own:=?_,clear:=?_,j:=h.j,gh:=fun v d hg=>(h.gh v d hg).lowB nb (okAt_mono hlo (hcx.g v d hg)),le0:=le_cut h.le0 fun i b hb=>Nat.lt_of_lt_of_le (hcx.b i b hb) hlo }
  ·intro i b hi
   obtain ⟨hlt,hi⟩:=hβ hi
   obtain ⟨box,h1,h2⟩:=h.bx i b hi
   have h1':(σ.boxes.take nb)[i]?=some box:=by rw [List.getElem?_take,if_pos hlt];exact h1
   exact ⟨box,h1',BoxRel.lowB h2 (fun fz cs e=>okBoxes_get hb (e ▸ h1')) fun fz j ks vs seen e=>okBoxes_mit hb (e ▸ h1')⟩
  ·intro i j b c R h1 h2
   exact h.apart i j b c R (hβ h1).2 (hβ h2).2
  ·intro i b R h1
   exact h.own i b R (hβ h1).2
  ·intro i b R box h1 hR hbox
   have hbox:(σ.boxes.take nb)[i]?=some box:=hbox
   rw [List.getElem?_take,if_pos (hβ h1).1] at hbox
   exact h.clear i b R box (hβ h1).2 hR hbox

end
end Go.V
