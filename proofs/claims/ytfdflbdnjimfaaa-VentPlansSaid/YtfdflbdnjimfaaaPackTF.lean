/- How far tanks are from the wanted ones; the first way that is as short; Way; The examples of the document: Awake and VentKnown return true. No condition. -/
import Derived.Test.YtfdflbdnjimfaaaPackTC
import Derived.Test.YtfdflbdnjimfaaaPackTD
import Derived.Test.YtfdflbdnjimfaaaPackTE

namespace Go.Proofs.Vent
open Go.V Go.Proofs

def farC (l:List Int):List D:=l.map fun v=>D.int .i64 v
def farAt (l:List Int) (i:Nat):Int:=l.getD i 0
theorem farC_len (l:List Int):(farC l).length=l.length:=by simp [farC]
theorem farC_get {l:List Int} {i:Nat} (h:i<l.length):(farC l)[0+i]?=some (.int .i64 (farAt l i)):=by
 unfold farC farAt
 rw [Nat.zero_add,List.getElem?_map,List.getElem?_eq_getElem h,List.getD_eq_getElem?_getD,List.getElem?_eq_getElem h]
 rfl
theorem farC_set {l:List Int} {i:Nat} {x:Int} (h:i<l.length):splice (farC l) (0+i) [D.int .i64 x]=farC (l.set i x):=by
 unfold splice farC
 rw [Nat.zero_add,List.map_set,List.set_eq_take_append_cons_drop,if_pos (by simpa using h)]
 rfl
theorem okAll_far (nb:Nat) (l:List Int):okAll nb (farC l)=true:=okAll_ints nb l
theorem farAt_set {l:List Int} {i j:Nat} {x:Int} (h:i<l.length):farAt (l.set i x) j=if j=i then x else farAt l j:=nowAt_set h

structure FarOK (l:List Int) (many:Nat):Prop where
 len:l.length=7
 bnd:∀ i,0≤farAt l i∧farAt l i≤many
theorem FarOK.set {l:List Int} {many:Nat} (h:FarOK l many) {i:Nat} (hi:i<7) {x:Int} (h0:0≤x) (h1:x≤many):FarOK (l.set i x) many:=by
 refine ⟨by rw [List.length_set];exact h.len,fun j=>?_⟩
 rw [farAt_set (by rw [h.len];exact hi)]
 split
 ·exact ⟨h0,h1⟩
 ·exact h.bnd j

def far0 (many k:Nat):List Int:=(List.range 7).map fun j=>if j<k then (many:Int) else 0
theorem far0_set {many k:Nat} (hk:k<7):(far0 many k).set k (many:Int)=far0 many (k+1):=by
 apply List.ext_getElem?
 intro i
 rw [List.getElem?_set]
 unfold far0
 simp only [List.getElem?_map,List.length_map,List.length_range]
 by_cases e:k=i
 ·subst e
  rw [if_pos rfl,if_pos hk]
  simp [hk]
 ·rw [if_neg e]
  by_cases hi:i<7
  ·simp only [List.getElem?_range hi,Option.map_some]
   by_cases h2:i<k
   ·rw [if_pos h2,if_pos (by omega)]
   ·rw [if_neg h2,if_neg (by omega)]
  ·simp [hi]
theorem far0_len (many k:Nat):(far0 many k).length=7:=by simp [far0]
theorem far0_ok (many k:Nat):FarOK (far0 many k) many:=by
 refine ⟨far0_len many k,fun i=>?_⟩
 unfold farAt far0
 rw [List.getD_eq_getElem?_getD,List.getElem?_map]
 by_cases hi:i<7
 ·rw [List.getElem?_range hi]
  simp only [Option.map_some,Option.getD_some]
  split <;> omega
 ·rw [List.getElem?_eq_none (by simp;omega)]
  simp

def farW (l:List Int) (ws:List Nat):Nat→List Int
 | 0=>l
 | k+1=>match ws[k]? with | some v=>(farW l ws k).set v 0 | none=>farW l ws k
theorem farW_ok {l:List Int} {many:Nat} (h:FarOK l many) {ws:List Nat} (hw:∀ v∈ws,v<7):∀ k,FarOK (farW l ws k) many
 | 0=>h
 | k+1=>by
  unfold farW
  cases hv:ws[k]? with
  | none=>exact farW_ok h hw k
  | some v=>exact (farW_ok h hw k).set (hw v (List.mem_of_getElem? hv)) (Int.le_refl 0) (Int.natCast_nonneg _)

def NetL.relax1 (n:NetL) (l:List Int) (p:Pp):List Int:=if n.kept.testBit p.to=true then l else l.set p.fr (min (farAt l p.fr) (farAt l p.to+1))
def NetL.relax2 (n:NetL) (l:List Int) (p:Pp):List Int:=if n.kept.testBit p.fr=true then l else l.set p.to (min (farAt l p.to) (farAt l p.fr+1))
def NetL.relaxN (n:NetL) (l:List Int):Nat→List Int
 | 0=>l
 | k+1=>match n.pipes[k]? with
  | none=>n.relaxN l k
  | some p=>if n.opN k=true then n.relax2 (n.relax1 (n.relaxN l k) p) p else n.relaxN l k
def NetL.relaxF (n:NetL) (l:List Int):Nat→List Int
 | 0=>l
 | k+1=>n.relaxN (n.relaxF l k) n.pipes.length
theorem NetL.relax1_ok {n:NetL} {l:List Int} {many:Nat} (h:FarOK l many) {p:Pp} (hp:p.fr<7):FarOK (n.relax1 l p) many:=by
 unfold NetL.relax1
 split
 ·exact h
 ·have h1:=h.bnd p.fr
  have h2:=h.bnd p.to
  exact h.set hp (by omega) (by omega)
theorem NetL.relax2_ok {n:NetL} {l:List Int} {many:Nat} (h:FarOK l many) {p:Pp} (hp:p.to<7):FarOK (n.relax2 l p) many:=by
 unfold NetL.relax2
 split
 ·exact h
 ·have h1:=h.bnd p.fr
  have h2:=h.bnd p.to
  exact h.set hp (by omega) (by omega)
theorem NetL.relaxN_ok {n:NetL} (hn:n.Ok) {l:List Int} {many:Nat} (h:FarOK l many):∀ k,FarOK (n.relaxN l k) many
 | 0=>h
 | k+1=>by
  unfold NetL.relaxN
  cases hp:n.pipes[k]? with
  | none=>exact n.relaxN_ok hn h k
  | some p =>
   have hpe:=hn.pe p (List.mem_of_getElem? hp)
   have h7:=hn.t7
   simp only
   split
   ·exact NetL.relax2_ok (NetL.relax1_ok (n.relaxN_ok hn h k) (by omega)) (by omega)
   ·exact n.relaxN_ok hn h k
theorem NetL.relaxF_ok {n:NetL} (hn:n.Ok) {l:List Int} {many:Nat} (h:FarOK l many):∀ k,FarOK (n.relaxF l k) many
 | 0=>h
 | k+1=>n.relaxN_ok hn (n.relaxF_ok hn h k) _
def NetL.far (n:NetL):List Int:=n.relaxF (farW (far0 n.tanks.length 7) (tanksU n.wanted) (tanksU n.wanted).length) n.tanks.length
theorem NetL.far_ok {n:NetL} (hn:n.Ok):FarOK n.far n.tanks.length:=n.relaxF_ok hn (farW_ok (far0_ok _ _) (fun _v hv=>(mem_tanksU.1 hv).1) _) _

def bestN (l:List Int) (ks:List Nat) (b:Int):Nat→Int
 | 0=>b
 | k+1=>match ks[k]? with | some v=>min (bestN l ks b k) (farAt l v) | none=>bestN l ks b k
def atN (l:List Int) (ks:List Nat) (b:Int):Nat→Nat
 | 0=>0
 | k+1=>match ks[k]? with | some v=>if farAt l v=b then atN l ks b k ||| 2^v else atN l ks b k | none=>atN l ks b k
theorem bestN_ok {l:List Int} {many:Nat} (h:FarOK l many) (ks:List Nat) {b:Int} (h0:0≤b) (h1:b≤many):∀ k,0≤bestN l ks b k∧bestN l ks b k≤many
 | 0=>⟨h0,h1⟩
 | k+1=>by
  have ih:=bestN_ok h ks h0 h1 k
  unfold bestN
  cases hv:ks[k]? with
  | none=>exact ih
  | some v=>have:=h.bnd v;simp only;omega
theorem atN_lt {l:List Int} {ks:List Nat} {b:Int} (hk:∀ v∈ks,v<7):∀ k,atN l ks b k<2^7
 | 0=>(by decide:0<2^7)
 | k+1=>by
  have ih:=atN_lt (l:=l) (b:=b) hk k
  unfold atN
  cases hv:ks[k]? with
  | none=>exact ih
  | some v =>
   simp only
   split
   ·exact or_lt ih (pow7 (hk v (List.mem_of_getElem? hv)))
   ·exact ih

def NetL.next1 (n:NetL) (l:List Int) (at_:Nat) (left:Int) (a b:Nat) (x:Nat):Nat:=if (at_.testBit a && (farAt l b==left - 1) && !(n.kept.testBit b))=true then x ||| 2^b else x
def NetL.next2 (n:NetL) (l:List Int) (at_:Nat) (left:Int) (p:Pp):Nat:=n.next1 l at_ left p.to p.fr (n.next1 l at_ left p.fr p.to 0)
def NetL.pickF (n:NetL) (l:List Int) (at_:Nat) (left:Int):Nat→Nat→Option (Nat × Nat)
 | 0,_=>none
 | c+1,i=>match n.pipes[i]? with
  | none=>none
  | some p=>if (n.opN i && !(n.next2 l at_ left p==0))=true then some (i,n.next2 l at_ left p) else n.pickF l at_ left c (i+1)
def NetL.wayL (n:NetL) (l:List Int):Nat→Nat→List Nat
 | 0,_=>[]
 | r+1,at_=>match n.pickF l at_ ((r:Nat)+1) n.pipes.length 0 with
  | some (i,nx)=>i::n.wayL l r nx
  | none=>n.wayL l r at_
def NetL.best (n:NetL):Int:=bestN n.far (tanksU n.kept) n.tanks.length (tanksU n.kept).length
def NetL.way (n:NetL):List Nat:=n.wayL n.far n.best.toNat (atN n.far (tanksU n.kept) n.best (tanksU n.kept).length)
def Nt.wayN (n:Nt) (blanks wanted:List Int):List Int × Int :=
 if n.lookE blanks wanted true=0 then (match (n.look blanks wanted).separate with
  | true=>([],4)
  | false=>((n.look blanks wanted).way.map fun i=>((i:Nat):Int),0)) else ([],n.lookE blanks wanted true)

theorem NetL.next1_lt {n:NetL} {l:List Int} {at_:Nat} {left:Int} {a b x:Nat} (hb:b<7) (hx:x<2^7):n.next1 l at_ left a b x<2^7:=by
 unfold NetL.next1
 split
 ·exact or_lt hx (pow7 hb)
 ·exact hx

end Go.Proofs.Vent

namespace Go.Proofs.Vent
open Go.V Go.Proofs

theorem less_k {k:Nat} (h:k<1000):(1000 - ((k:Int)+1)).toNat<(1000 - (k:Int)).toNat:=by omega
theorem okB2 {nb:Nat} {c0 c1:List D} (h0:okAll nb c0=true) (h1:okAll nb c1=true):okBoxes nb [.flat false c0,.flat false c1]=true:=by simp [okBoxes,h0,h1]
theorem okB3 {nb:Nat} {c0 c1:List D} {g:Nat} {rs:List (List D)} (h0:okAll nb c0=true) (h1:okAll nb c1=true):okBoxes nb [.flat false c0,.flat false c1,.rows false g 1 rs]=true:=by simp [okBoxes,h0,h1]
theorem okB_way {c0 c1 c2:List D} {g g2:Nat} {rs rs2:List (List D)} (h0:okAll 5 c0=true) (h1:okAll 5 c1=true) (h2:okAll 5 c2=true):okBoxes 5 [.flat false c0,.flat false c1,.rows false g 1 rs,.flat false c2,.rows false g2 2 rs2]=true:=by simp [okBoxes,h0,h1,h2]

def NetL.nextQ (n:NetL) (l:List Int) (at_:Nat) (left:Int) (p:Pp):Nat→Nat
 | 0=>0
 | 1=>n.next1 l at_ left p.fr p.to 0
 | _=>n.next2 l at_ left p
theorem NetL.nextQ_step {m:NetL} {l:List Int} {at_:Nat} {left:Int} {p:Pp}:∀ {q x:Nat},x=m.nextQ l at_ left p q→q<2→p.fr<7→p.to<7 →
    ∃ a b:Nat,a<7∧b<7∧([[D.int .i64 p.fr,.int .i64 p.to],[.int .i64 p.to,.int .i64 p.fr]]:List (List D))[q]?=some [.int .i64 a,.int .i64 b]∧m.next1 l at_ left a b x=m.nextQ l at_ left p (q+1)
  | 0,_,rfl,_,hf,ht=>⟨p.fr,p.to,hf,ht,rfl,rfl⟩
  | 1,_,rfl,_,hf,ht=>⟨p.to,p.fr,ht,hf,rfl,rfl⟩
theorem NetL.nextQ_lt {n:NetL} {l:List Int} {at_:Nat} {left:Int} {p:Pp} (hf:p.fr<7) (ht:p.to<7) (q:Nat):n.nextQ l at_ left p q<2^7:=by
 unfold NetL.nextQ NetL.next2
 split
 ·decide
 ·exact NetL.next1_lt ht (by decide)
 ·exact NetL.next1_lt hf (NetL.next1_lt ht (by decide))

set_option maxHeartbeats 40000000 in
theorem den24 (n:Nt) (blanks wanted:List Int) (hbl:blanks.length<9223372036854775808) (hwl:wanted.length<9223372036854775808):DN 24 [.agg n.enc,.list 1 (blanks.map encI),.list 1 (wanted.map encI)] (tupLI (n.wayN blanks wanted)):=by
 have h55:=den55w n blanks wanted hbl hwl
 by_cases he:n.lookE blanks wanted true=0
 rotate_left
 ·rw [Nt.lookD_bad he] at h55
  have hR:n.wayN blanks wanted=([],n.lookE blanks wanted true):=by unfold Nt.wayN;rw [if_neg he]
  rw [hR]
  obtain ⟨e,hee⟩:∃ e,n.lookE blanks wanted true=e:=⟨_,rfl⟩
  rw [hee] at h55 he ⊢
  refine mkW Try.func24 Try.call24 rfl rfl ?_
  refine ⟨_,rfl,_,h55,?_⟩
  refine ⟨fun _=>?_,fun h=>?_⟩
  ·exact ⟨_,rfl,.tcons (.nil 0 1) (.refl _)⟩
  ·have h:(e != 0)=false:=h
   exact absurd (by simpa using h) he
 rw [Nt.lookD_ok he] at h55
 have hok:=Nt.look_okw he
 obtain ⟨m,hm⟩:∃ m,n.look blanks wanted=m:=⟨_,rfl⟩
 have hR:n.wayN blanks wanted=(match m.separate with | true=>([],4) | false=>(m.way.map fun i=>((i:Nat):Int),0)):=by unfold Nt.wayN;rw [if_pos he,hm];try (cases m.separate <;> rfl)
 rw [hm] at h55 hok
 have h7:=hok.t7
 have h12:=hok.p
 have hk7:=hok.k
 have hw7:=hok.w
 have htl:((m.tanks.map Tk.enc).length:Int)=m.tanks.length:=by simp
 have hpl:((m.pipes.map Pp.enc).length:Int)=m.pipes.length:=by simp
 refine mkW Try.func24 Try.call24 rfl rfl ?_
 refine ⟨_,rfl,_,h55,?_⟩
 refine ⟨fun h=>absurd h (by decide),fun _=>?_⟩
 refine ⟨_,rfl,_,den63 m hok,?_⟩
 refine ⟨fun h1=>?_,fun h1=>?_⟩
 ·have h1:m.separate=true:=h1
  rw [h1] at hR
  rw [hR]
  exact ⟨_,rfl,.tcons (.nil 0 1) (.refl _)⟩
 have h1:m.separate=false:=h1
 rw [h1] at hR
 have hR:n.wayN blanks wanted=(m.way.map fun i=>((i:Nat):Int),0):=hR
 rw [hR]
 -- far,at first
 refine ⟨[8,10,43],2,[],fun σ=>∃ i:Nat,i≤7 ∧
  σ=⟨[(8,.ro m.enc),(10,.loc 1 0),(43,.int .i64 i)],[.flat false n.enc,.flat false (farC (far0 m.tanks.length i))],.non⟩,
  fun σ=>(1000 - slotI 43 σ).toNat,rfl,⟨rfl,rfl⟩,⟨0,Nat.zero_le _,rfl⟩,?_⟩
 rintro σ ⟨i,hi,rfl⟩
 refine ⟨fun h2=>?_,fun h2=>?_⟩
 ·have h2:(i:Int)<7:=of_decide_eq_true h2
  refine ⟨⟨by omega,by omega⟩,i,Nat.mul_one _,?_⟩
  refine ⟨by rw [farC_len,far0_len];show 0+i+1≤7;omega,_,farC_set (by rw [far0_len];omega),?_⟩
  refine ⟨(i:Int)+1,wrap64 (by omega) (by omega),?_⟩
  exact ⟨⟨rfl,okB2 rfl (okAll_far _ _)⟩,⟨i+1,by omega,by rw [htl,far0_set (by omega)];rfl⟩,less_k (by omega)⟩
 have h2:¬ (i:Int)<7:=of_decide_eq_false h2
 obtain rfl:i=7:=by omega
 -- the wanted ones
 have hws:∀ v∈tanksU m.wanted,v<7:=fun v hv=>(mem_tanksU.1 hv).1
 have hwsl:=intsN_len (tanksU m.wanted)
 have hwsl7:(tanksU m.wanted).length≤7:=by unfold tanksU;exact Nat.le_trans (List.length_filter_le _ _) (by simp)
 have hksl7:(tanksU m.kept).length≤7:=by unfold tanksU;exact Nat.le_trans (List.length_filter_le _ _) (by simp)
 refine ⟨_,rfl,_,(den58 m.wanted (by omega):DN 58 [.int .u64 m.wanted] (.list 1 (intsN (tanksU m.wanted)))),?_⟩
 refine ⟨[8,10,59,60,61],2,[],fun σ=>∃ (k:Nat) (l0:List Int),k≤(tanksU m.wanted).length∧farW (far0 m.tanks.length 7) (tanksU m.wanted) k=l0 ∧
  σ=⟨[(8,.ro m.enc),(10,.loc 1 0),(59,.list 1 (intsN (tanksU m.wanted))),(60,.int .i64 (intsN (tanksU m.wanted)).length),(61,.int .i64 k)],[.flat false n.enc,.flat false (farC l0)],.non⟩,
  fun σ=>(1000 - slotI 61 σ).toNat,rfl,⟨rfl,okB2 rfl (okAll_far _ _)⟩,⟨0,_,Nat.zero_le _,rfl,rfl⟩,?_⟩
 rintro σ ⟨k,l0,hk,hl0e,rfl⟩
 refine ⟨fun h3=>?_,fun h3=>?_⟩
 ·have h3:=of_decide_eq_true h3
  rw [hwsl] at h3
  have hk':k<(tanksU m.wanted).length:=by omega
  have hrow:=intsN_get hk'
  have hv7:=hws _ (List.getElem_mem hk')
  obtain ⟨v,hv⟩:∃ v,(tanksU m.wanted)[k]'hk'=v:=⟨_,rfl⟩
  have hgv:(tanksU m.wanted)[k]?=some v:=by rw [List.getElem?_eq_getElem hk',hv]
  rw [hv] at hrow hv7
  have hfo:FarOK l0 m.tanks.length:=hl0e ▸ farW_ok (far0_ok m.tanks.length 7) hws k
  have hst:farW (far0 m.tanks.length 7) (tanksU m.wanted) (k+1)=l0.set v 0:=by
   conv=>lhs;unfold farW
   rw [hgv,← hl0e]
  refine ⟨by omega,_,hrow,?_⟩
  refine ⟨⟨by omega,by omega⟩,v,Nat.mul_one _,?_⟩
  refine ⟨by rw [farC_len,hfo.len];show 0+v+1≤7;omega,_,farC_set (by rw [hfo.len];omega),?_⟩
  refine ⟨(k:Int)+1,wrap64 (by omega) (by omega),?_⟩
  exact ⟨⟨rfl,okB2 rfl (okAll_far _ _)⟩,⟨k+1,_,hk',hst,rfl⟩,less_k (by omega)⟩
 have h3:=of_decide_eq_false h3
 rw [hwsl] at h3
 obtain rfl:k=(tanksU m.wanted).length:=by omega
 have hl0:FarOK l0 m.tanks.length:=hl0e ▸ farW_ok (far0_ok m.tanks.length 7) hws (tanksU m.wanted).length
 have hfarE:m.far=m.relaxF l0 m.tanks.length:=by rw [← hl0e];rfl
 -- nearer and nearer
 refine ⟨[8,10,73,74],2,[],fun σ=>∃ (a:Nat) (fb:List Int),a≤m.tanks.length∧m.relaxF l0 a=fb ∧
  σ=⟨[(8,.ro m.enc),(10,.loc 1 0),(73,.int .i64 (m.tanks.map Tk.enc).length),(74,.int .i64 a)],[.flat false n.enc,.flat false (farC fb)],.non⟩,
  fun σ=>(1000 - slotI 74 σ).toNat,rfl,⟨rfl,okB2 rfl (okAll_far _ _)⟩,⟨0,_,Nat.zero_le _,rfl,rfl⟩,?_⟩
 rintro σ ⟨a,fb,ha,hfb,rfl⟩
 refine ⟨fun h4=>?_,fun h4=>?_⟩
 ·have h4:=of_decide_eq_true h4
  rw [htl] at h4
  refine ⟨[8,10,73,74,80,81,82],2,[],fun σ=>∃ (k:Nat) (c:List Int),k≤m.pipes.length∧m.relaxN fb k=c ∧
   σ=⟨[(8,.ro m.enc),(10,.loc 1 0),(73,.int .i64 (m.tanks.map Tk.enc).length),(74,.int .i64 a),(80,.list 3 (m.pipes.map Pp.enc)),(81,.int .i64 (m.pipes.map Pp.enc).length),(82,.int .i64 k)],[.flat false n.enc,.flat false (farC c)],.non⟩,
   fun σ=>(1000 - slotI 82 σ).toNat,rfl,⟨rfl,okB2 rfl (okAll_far _ _)⟩,⟨0,_,Nat.zero_le _,rfl,rfl⟩,?_⟩
  rintro σ ⟨k,c,hk,hc,rfl⟩
  refine ⟨fun h5=>?_,fun h5=>?_⟩
  ·have h5:=of_decide_eq_true h5
   rw [hpl] at h5
   have hk':k<m.pipes.length:=by omega
   obtain ⟨p,hgp⟩:∃ p,m.pipes[k]?=some p:=⟨_,List.getElem?_eq_getElem hk'⟩
   have hrow:(m.pipes.map Pp.enc)[((k:Int)).toNat]?=some (p.enc):=by rw [Int.toNat_natCast,List.getElem?_map,hgp];rfl
   have hpe:=hok.pe p (List.mem_of_getElem? hgp)
   have hc0:FarOK c m.tanks.length:=hc ▸ m.relaxN_ok hok (hfb ▸ m.relaxF_ok hok hl0 a) k
   have hstep:m.relaxN fb (k+1)=if m.opN k=true then m.relax2 (m.relax1 c p) p else c:=by
    conv=>lhs;unfold NetL.relaxN
    rw [hgp,hc]
   refine ⟨by omega,_,hrow,?_⟩
   have hdrop:=m.op_drop hok (i:=k) (by omega)
   refine ⟨⟨by omega,by omega⟩,_,(show (m.op.map D.bool).drop (k*1)=D.bool (m.opN k)::(m.op.map D.bool).drop (k+1) by rw [Nat.mul_one];exact hdrop),?_⟩
   refine ⟨fun h6=>?_,fun h6=>?_⟩
   ·have h6:(!(m.opN k))=true:=h6
    have h6:m.opN k=false:=by simpa using h6
    rw [if_neg (by rw [h6];decide)] at hstep
    refine ⟨(k:Int)+1,wrap64 (by omega) (by omega),?_⟩
    exact ⟨⟨rfl,okB2 rfl (okAll_far _ _)⟩,⟨k+1,_,hk',hstep,rfl⟩,less_k (by omega)⟩
   have h6:(!(m.opN k))=false:=h6
   have h6:m.opN k=true:=by simpa using h6
   rw [if_pos h6] at hstep
   refine Or.inl ⟨by kernel_rfl,?_⟩
   refine ⟨_,rfl,_,den64 m.kept p.to (by omega) (by omega),?_⟩
   refine ⟨fun h8=>?_,fun h8=>?_⟩
   ·have h8:(!(m.kept.testBit p.to))=true:=h8
    have h8:m.kept.testBit p.to=false:=by simpa using h8
    have e1:m.relax1 c p=c.set p.fr (min (farAt c p.fr) (farAt c p.to+1)):=by unfold NetL.relax1;rw [if_neg (by rw [h8];decide)]
    have hc1:=NetL.relax1_ok (n:=m) hc0 (p:=p) (by omega)
    refine Or.inl ⟨by kernel_rfl,?_⟩
    refine ⟨⟨by omega,by omega⟩,p.fr,Nat.mul_one _,?_⟩
    refine ⟨_,farC_get (by rw [hc0.len];omega),?_⟩
    refine ⟨⟨by omega,by omega⟩,p.to,Nat.mul_one _,?_⟩
    refine ⟨_,farC_get (by rw [hc0.len];omega),?_⟩
    have hb1:=hc0.bnd p.to
    refine ⟨_,wrap64 (by omega) (by omega),?_⟩
    refine ⟨⟨by omega,by omega⟩,p.fr,Nat.mul_one _,?_⟩
    refine ⟨by rw [farC_len,hc0.len];show 0+p.fr+1≤7;omega,_,farC_set (by rw [hc0.len];omega),?_⟩
    rw [e1] at hc1
    refine Or.inl ⟨by kernel_rfl,?_⟩
    refine ⟨_,rfl,_,den64 m.kept p.fr (by omega) (by omega),?_⟩
    refine ⟨fun h7=>?_,fun h7=>?_⟩
    ·have h7:(!(m.kept.testBit p.fr))=true:=h7
     have h7:m.kept.testBit p.fr=false:=by simpa using h7
     refine Or.inl ⟨by kernel_rfl,?_⟩
     refine ⟨⟨by omega,by omega⟩,p.to,Nat.mul_one _,?_⟩
     refine ⟨_,farC_get (by rw [hc1.len];omega),?_⟩
     refine ⟨⟨by omega,by omega⟩,p.fr,Nat.mul_one _,?_⟩
     refine ⟨_,farC_get (by rw [hc1.len];omega),?_⟩
     have hb2:=hc1.bnd p.fr
     refine ⟨_,wrap64 (by omega) (by omega),?_⟩
     refine ⟨⟨by omega,by omega⟩,p.to,Nat.mul_one _,?_⟩
     refine ⟨by rw [farC_len,hc1.len];show 0+p.to+1≤7;omega,_,farC_set (by rw [hc1.len];omega),?_⟩
     have e2:m.relax2 (c.set p.fr (min (farAt c p.fr) (farAt c p.to+1))) p=(c.set p.fr (min (farAt c p.fr) (farAt c p.to+1))).set p.to (min (farAt (c.set p.fr (min (farAt c p.fr) (farAt c p.to+1))) p.to) (farAt (c.set p.fr (min (farAt c p.fr) (farAt c p.to+1))) p.fr+1)):=by unfold NetL.relax2;rw [if_neg (by rw [h7];decide)]
     refine ⟨(k:Int)+1,wrap64 (by omega) (by omega),?_⟩
     exact ⟨⟨rfl,okB2 rfl (okAll_far _ _)⟩,⟨k+1,_,hk',(by rw [hstep,e1,e2]),rfl⟩,less_k (by omega)⟩
    ·have h7:(!(m.kept.testBit p.fr))=false:=h7
     have h7:m.kept.testBit p.fr=true:=by simpa using h7
     have e2:m.relax2 (c.set p.fr (min (farAt c p.fr) (farAt c p.to+1))) p=c.set p.fr (min (farAt c p.fr) (farAt c p.to+1)):=by unfold NetL.relax2;rw [if_pos h7]
     refine ⟨(k:Int)+1,wrap64 (by omega) (by omega),?_⟩
     exact ⟨⟨rfl,okB2 rfl (okAll_far _ _)⟩,⟨k+1,_,hk',(by rw [hstep,e1,e2]),rfl⟩,less_k (by omega)⟩
   ·have h8:(!(m.kept.testBit p.to))=false:=h8
    have h8:m.kept.testBit p.to=true:=by simpa using h8
    have e1:m.relax1 c p=c:=by unfold NetL.relax1;rw [if_pos h8]
    refine Or.inl ⟨by kernel_rfl,?_⟩
    refine ⟨_,rfl,_,den64 m.kept p.fr (by omega) (by omega),?_⟩
    refine ⟨fun h7=>?_,fun h7=>?_⟩
    ·have h7:(!(m.kept.testBit p.fr))=true:=h7
     have h7:m.kept.testBit p.fr=false:=by simpa using h7
     refine Or.inl ⟨by kernel_rfl,?_⟩
     refine ⟨⟨by omega,by omega⟩,p.to,Nat.mul_one _,?_⟩
     refine ⟨_,farC_get (by rw [hc0.len];omega),?_⟩
     refine ⟨⟨by omega,by omega⟩,p.fr,Nat.mul_one _,?_⟩
     refine ⟨_,farC_get (by rw [hc0.len];omega),?_⟩
     have hb2:=hc0.bnd p.fr
     refine ⟨_,wrap64 (by omega) (by omega),?_⟩
     refine ⟨⟨by omega,by omega⟩,p.to,Nat.mul_one _,?_⟩
     refine ⟨by rw [farC_len,hc0.len];show 0+p.to+1≤7;omega,_,farC_set (by rw [hc0.len];omega),?_⟩
     have e2:m.relax2 (c) p=(c).set p.to (min (farAt (c) p.to) (farAt (c) p.fr+1)):=by unfold NetL.relax2;rw [if_neg (by rw [h7];decide)]
     refine ⟨(k:Int)+1,wrap64 (by omega) (by omega),?_⟩
     exact ⟨⟨rfl,okB2 rfl (okAll_far _ _)⟩,⟨k+1,_,hk',(by rw [hstep,e1,e2]),rfl⟩,less_k (by omega)⟩
    ·have h7:(!(m.kept.testBit p.fr))=false:=h7
     have h7:m.kept.testBit p.fr=true:=by simpa using h7
     have e2:m.relax2 (c) p=c:=by unfold NetL.relax2;rw [if_pos h7]
     refine ⟨(k:Int)+1,wrap64 (by omega) (by omega),?_⟩
     exact ⟨⟨rfl,okB2 rfl (okAll_far _ _)⟩,⟨k+1,_,hk',(by rw [hstep,e1,e2]),rfl⟩,less_k (by omega)⟩
  have h5:=of_decide_eq_false h5
  rw [hpl] at h5
  obtain rfl:k=m.pipes.length:=by omega
  refine ⟨(a:Int)+1,wrap64 (by omega) (by omega),?_⟩
  have hfb2:m.relaxF l0 (a+1)=c:=by show m.relaxN (m.relaxF l0 a) m.pipes.length=c;rw [hfb];exact hc
  exact ⟨⟨rfl,okB2 rfl (okAll_far _ _)⟩,⟨a+1,_,by omega,hfb2,rfl⟩,less_k (by omega)⟩
 have h4:=of_decide_eq_false h4
 rw [htl] at h4
 obtain rfl:a=m.tanks.length:=by omega
 obtain rfl:fb=m.far:=by rw [hfarE,hfb]
 have hfar:=NetL.far_ok hok
 -- the nearest kept ones
 have hks:∀ v∈tanksU m.kept,v<7:=fun v hv=>(mem_tanksU.1 hv).1
 have hksl:=intsN_len (tanksU m.kept)
 have h58:DN 58 [.int .u64 m.kept] (.list 1 (intsN (tanksU m.kept))):=den58 m.kept (by omega)
 have hbest:=bestN_ok hfar (tanksU m.kept) (b:=(m.tanks.length:Int)) (Int.natCast_nonneg _) (Int.le_refl _)
 refine ⟨_,rfl,_,h58,?_⟩
 refine ⟨[8,10,16,148,149,150],2,[],fun σ=>∃ (k:Nat) (z:Int),k≤(tanksU m.kept).length∧bestN m.far (tanksU m.kept) m.tanks.length k=z ∧
  σ=⟨[(8,.ro m.enc),(10,.loc 1 0),(16,.int .i64 z),(148,.list 1 (intsN (tanksU m.kept))),(149,.int .i64 (intsN (tanksU m.kept)).length),(150,.int .i64 k)],[.flat false n.enc,.flat false (farC m.far)],.non⟩,
  fun σ=>(1000 - slotI 150 σ).toNat,rfl,⟨rfl,okB2 rfl (okAll_far _ _)⟩,⟨0,_,Nat.zero_le _,htl.symm,rfl⟩,?_⟩
 rintro σ ⟨k,z,hk,hz,rfl⟩
 refine ⟨fun h5=>?_,fun h5=>?_⟩
 ·have h5:=of_decide_eq_true h5
  rw [hksl] at h5
  have hk':k<(tanksU m.kept).length:=by omega
  have hrow:=intsN_get hk'
  have hv7:=hks _ (List.getElem_mem hk')
  obtain ⟨v,hv⟩:∃ v,(tanksU m.kept)[k]'hk'=v:=⟨_,rfl⟩
  have hgv:(tanksU m.kept)[k]?=some v:=by rw [List.getElem?_eq_getElem hk',hv]
  rw [hv] at hrow hv7
  have hst:bestN m.far (tanksU m.kept) m.tanks.length (k+1)=min z (farAt m.far v):=by
   conv=>lhs;unfold bestN
   rw [hgv,hz]
  refine ⟨by omega,_,hrow,?_⟩
  refine ⟨⟨by omega,by omega⟩,v,Nat.mul_one _,?_⟩
  refine ⟨_,farC_get (by rw [hfar.len];omega),?_⟩
  refine ⟨(k:Int)+1,wrap64 (by omega) (by omega),?_⟩
  exact ⟨⟨rfl,okB2 rfl (okAll_far _ _)⟩,⟨k+1,_,hk',hst,rfl⟩,less_k (by omega)⟩
 have h5:=of_decide_eq_false h5
 rw [hksl] at h5
 obtain rfl:k=(tanksU m.kept).length:=by omega
 have hb:=hbest (tanksU m.kept).length
 rw [hz] at hb
 have hbn:m.best=z:=hz
 clear hz
 obtain ⟨bn,rfl⟩:∃ bn:Nat,z=bn:=⟨z.toNat,by omega⟩
 refine ⟨_,rfl,_,h58,?_⟩
 refine ⟨[8,10,16,19,164,165,166],2,[],fun σ=>∃ k at0:Nat,k≤(tanksU m.kept).length∧atN m.far (tanksU m.kept) bn k=at0 ∧
  σ=⟨[(8,.ro m.enc),(10,.loc 1 0),(16,.int .i64 bn),(19,.int .u64 ((at0:Nat):Int)),(164,.list 1 (intsN (tanksU m.kept))),(165,.int .i64 (intsN (tanksU m.kept)).length),(166,.int .i64 k)],[.flat false n.enc,.flat false (farC m.far)],.non⟩,
  fun σ=>(1000 - slotI 166 σ).toNat,rfl,⟨rfl,okB2 rfl (okAll_far _ _)⟩,⟨0,_,Nat.zero_le _,rfl,rfl⟩,?_⟩
 rintro σ ⟨k,at0,hk,hat0e,rfl⟩
 refine ⟨fun h6=>?_,fun h6=>?_⟩
 ·have h6:=of_decide_eq_true h6
  rw [hksl] at h6
  have hk':k<(tanksU m.kept).length:=by omega
  have hrow:=intsN_get hk'
  have hv7:=hks _ (List.getElem_mem hk')
  obtain ⟨v,hv⟩:∃ v,(tanksU m.kept)[k]'hk'=v:=⟨_,rfl⟩
  have hgv:(tanksU m.kept)[k]?=some v:=by rw [List.getElem?_eq_getElem hk',hv]
  rw [hv] at hrow hv7
  have hst:atN m.far (tanksU m.kept) bn (k+1)=if farAt m.far v=(bn:Int) then at0 ||| 2^v else at0:=by
   conv=>lhs;unfold atN
   rw [hgv,hat0e]
  have hlt:at0<2^7:=hat0e ▸ atN_lt (l:=m.far) (b:=(bn:Int)) hks k
  refine ⟨by omega,_,hrow,?_⟩
  refine ⟨⟨by omega,by omega⟩,v,Nat.mul_one _,?_⟩
  refine ⟨_,farC_get (by rw [hfar.len];omega),?_⟩
  refine ⟨fun h7=>?_,fun h7=>?_⟩
  ·have h7:(farAt m.far v==(bn:Int))=true:=h7
   have h7:farAt m.far v=(bn:Int):=beq_iff_eq.1 h7
   rw [if_pos h7] at hst
   refine ⟨_,rfl,_,den57 v (by omega),?_⟩
   refine ⟨_,bits_or (by omega) (pow_lt62 (by omega)),?_⟩
   refine ⟨(k:Int)+1,wrap64 (by omega) (by omega),?_⟩
   exact ⟨⟨rfl,okB2 rfl (okAll_far _ _)⟩,⟨k+1,_,hk',hst,rfl⟩,less_k (by omega)⟩
  ·have h7:(farAt m.far v==(bn:Int))=false:=h7
   have h7:¬ farAt m.far v=(bn:Int):=fun e=>by rw [beq_iff_eq.2 e] at h7;cases h7
   rw [if_neg h7] at hst
   refine ⟨(k:Int)+1,wrap64 (by omega) (by omega),?_⟩
   exact ⟨⟨rfl,okB2 rfl (okAll_far _ _)⟩,⟨k+1,_,hk',hst,rfl⟩,less_k (by omega)⟩
 have h6:=of_decide_eq_false h6
 rw [hksl] at h6
 obtain rfl:k=(tanksU m.kept).length:=by omega
 have hat0:at0<2^7:=hat0e ▸ atN_lt (l:=m.far) (b:=(bn:Int)) hks (tanksU m.kept).length
 have hwayE:m.way=m.wayL m.far bn at0:=by
  show m.wayL m.far m.best.toNat (atN m.far (tanksU m.kept) m.best (tanksU m.kept).length)=_
  rw [hbn,hat0e]
  rfl
 -- pipe by pipe
 refine ⟨[8,10,19,22,23],2,[(.slot 22,1)],fun σ=>∃ (r at_ g:Nat) (acc:List Nat),r≤7∧at_<2^7∧acc.length+r≤7∧m.way=acc++m.wayL m.far r at_ ∧
  σ=⟨[(8,.ro m.enc),(10,.loc 1 0),(19,.int .u64 ((at_:Nat):Int)),(22,.sl 2 g 0 (intsN acc).length),(23,.int .i64 r)],[.flat false n.enc,.flat false (farC m.far),.rows false g 1 (intsN acc)],.non⟩,
  fun σ=>(slotI 23 σ).toNat,rfl,⟨rfl,okB2 rfl (okAll_far _ _)⟩,⟨bn,at0,0,[],by omega,hat0,by simp;omega,hwayE,rfl⟩,?_⟩
 rintro σ ⟨r,at_,g,acc,hr7,hat,hacc,hrec,rfl⟩
 refine ⟨fun h7=>?_,fun h7=>?_⟩
 rotate_left
 ·have h7:¬ ((r:Nat):Int) > 0:=of_decide_eq_false h7
  obtain rfl:r=0:=by omega
  have e:m.way=acc:=by rw [hrec];simp [NetL.wayL]
  exact ⟨_,reify_tup (mapO_cons (reify_sl rfl rfl) (mapO_cons rfl rfl)),by rw [e];exact .refl _⟩
 have h7:((r:Nat):Int) > 0:=of_decide_eq_true h7
 obtain ⟨r,rfl⟩:∃ q,r=q+1:=⟨r - 1,by omega⟩
 have e1:((r+1:Nat):Int) - 1=(r:Int):=by omega
 have hwst:m.wayL m.far (r+1) at_=match m.pickF m.far at_ ((r+1:Nat):Int) m.pipes.length 0 with
  | some (i,nx)=>i::m.wayL m.far r nx
  | none=>m.wayL m.far r at_:=rfl
 have hil:((intsN acc).length:Nat)=acc.length:=by simp [intsN]
 refine ⟨[8,10,19,22,23,189,190,191],3,[],fun σ=>∃ i:Nat,i≤m.pipes.length∧m.pickF m.far at_ ((r+1:Nat):Int) m.pipes.length 0=m.pickF m.far at_ ((r+1:Nat):Int) (m.pipes.length - i) i ∧
  σ=⟨[(8,.ro m.enc),(10,.loc 1 0),(19,.int .u64 ((at_:Nat):Int)),(22,.sl 2 g 0 (intsN acc).length),(23,.int .i64 ((r+1:Nat):Int)),(189,.list 3 (m.pipes.map Pp.enc)),(190,.int .i64 (m.pipes.map Pp.enc).length),(191,.int .i64 i)],[.flat false n.enc,.flat false (farC m.far),.rows false g 1 (intsN acc)],.non⟩,
  fun σ=>(1000 - slotI 191 σ).toNat,rfl,⟨rfl,okB3 rfl (okAll_far _ _)⟩,⟨0,Nat.zero_le _,rfl,rfl⟩,?_⟩
 rintro σ ⟨i,hi,hpick,rfl⟩
 refine ⟨fun h8=>?_,fun h8=>?_⟩
 rotate_left
 ·have h8:=of_decide_eq_false h8
  rw [hpl] at h8
  have e:m.pipes.length - i=0:=by omega
  rw [e] at hpick
  have hpn:m.pickF m.far at_ ((r+1:Nat):Int) m.pipes.length 0=none:=hpick
  rw [hpn] at hwst
  refine ⟨(r:Int),by rw [e1];exact wrap64 (by omega) (by omega),?_⟩
  exact ⟨⟨rfl,okB3 rfl (okAll_far _ _)⟩,⟨r,at_,g,acc,by omega,hat,by omega,by rw [hrec,hwst],rfl⟩,by show ((r:Nat):Int).toNat<(((r+1:Nat):Int)).toNat;omega⟩
 have h8:=of_decide_eq_true h8
 rw [hpl] at h8
 have hi':i<m.pipes.length:=by omega
 obtain ⟨p,hgp⟩:∃ p,m.pipes[i]?=some p:=⟨_,List.getElem?_eq_getElem hi'⟩
 have hrow:(m.pipes.map Pp.enc)[((i:Int)).toNat]?=some (p.enc):=by rw [Int.toNat_natCast,List.getElem?_map,hgp];rfl
 have hpe:=hok.pe p (List.mem_of_getElem? hgp)
 have hpst:m.pickF m.far at_ ((r+1:Nat):Int) (m.pipes.length - i) i=if (m.opN i && !(m.next2 m.far at_ ((r+1:Nat):Int) p==0))=true then some (i,m.next2 m.far at_ ((r+1:Nat):Int) p) else m.pickF m.far at_ ((r+1:Nat):Int) (m.pipes.length - (i+1)) (i+1):=by
  rw [show m.pipes.length - i=(m.pipes.length - (i+1))+1 by omega]
  conv=>lhs;unfold NetL.pickF
  rw [hgp]
 refine ⟨by omega,_,hrow,?_⟩
 have hdrop:=m.op_drop hok (i:=i) (by omega)
 refine ⟨⟨by omega,by omega⟩,_,(show (m.op.map D.bool).drop (i*1)=D.bool (m.opN i)::(m.op.map D.bool).drop (i+1) by rw [Nat.mul_one];exact hdrop),?_⟩
 refine ⟨fun h9=>?_,fun h9=>?_⟩
 ·have h9:(!(m.opN i))=true:=h9
  have h9:m.opN i=false:=by simpa using h9
  rw [if_neg (by rw [h9];simp)] at hpst
  refine ⟨(i:Int)+1,wrap64 (by omega) (by omega),?_⟩
  exact ⟨⟨rfl,okB3 rfl (okAll_far _ _)⟩,⟨i+1,hi',hpick.trans hpst,rfl⟩,less_k (by omega)⟩
 have h9:(!(m.opN i))=false:=h9
 have h9:m.opN i=true:=by simpa using h9
 have hfb1:=hfar.bnd p.fr
 have hfb2:=hfar.bnd p.to
 refine ⟨[8,10,19,22,23,24,26,189,190,191,213,214,215],5,[],fun σ=>∃ q x:Nat,q≤2∧x=m.nextQ m.far at_ ((r+1:Nat):Int) p q ∧
  σ=⟨[(8,.ro m.enc),(10,.loc 1 0),(19,.int .u64 ((at_:Nat):Int)),(22,.sl 2 g 0 (intsN acc).length),(23,.int .i64 ((r+1:Nat):Int)),(24,.int .i64 i),(26,.int .u64 ((x:Nat):Int)),(189,.list 3 (m.pipes.map Pp.enc)),(190,.int .i64 (m.pipes.map Pp.enc).length),(191,.int .i64 i),(213,.sl 4 0 0 2),(214,.int .i64 2),(215,.int .i64 q)],
   [.flat false n.enc,.flat false (farC m.far),.rows false g 1 (intsN acc),.flat false p.enc,.rows false 0 2 [[.int .i64 p.fr,.int .i64 p.to],[.int .i64 p.to,.int .i64 p.fr]]],.non⟩,
  fun σ=>(1000 - slotI 215 σ).toNat,rfl,⟨rfl,okB_way rfl (okAll_far _ _) rfl⟩,⟨0,0,Nat.zero_le _,rfl,rfl⟩,?_⟩
 rintro σ ⟨q,x,hq,hx,rfl⟩
 have hxlt:x<2^7:=hx ▸ NetL.nextQ_lt (by omega) (by omega) q
 refine ⟨fun g0=>?_,fun g0=>?_⟩
 ·have g0:(q:Int)<2:=of_decide_eq_true g0
  have hq2:q<2:=by omega
  have hpf:p.fr<7:=Nat.lt_of_lt_of_le hpe.1 hok.t7
  have hpt:p.to<7:=Nat.lt_of_lt_of_le hpe.2.1 hok.t7
  have hns:=NetL.nextQ_step (m:=m) (l:=m.far) (at_:=at_) (left:=((r+1:Nat):Int)) (p:=p) (q:=q) (x:=x) hx hq2 hpf hpt
  obtain ⟨a,hns⟩:=hns
  obtain ⟨b,ha7,hb7,hrow2,hnx⟩:=hns
  have hfb:=hfar.bnd b
  refine ⟨by omega,by omega,q,Nat.zero_add _,?_⟩
  refine ⟨_,hrow2,?_⟩
  refine Or.inl ⟨by kernel_rfl,?_⟩
  refine ⟨⟨by decide,by decide⟩,?_⟩
  refine ⟨_,rfl,_,den64 at_ a (by omega) (by omega),?_⟩
  refine ⟨fun g1=>?_,fun g1=>?_⟩
  ·have g1:at_.testBit a=true:=g1
   refine ⟨⟨by decide,by decide⟩,?_⟩
   refine ⟨⟨by omega,by omega⟩,b,Nat.mul_one _,?_⟩
   refine ⟨_,farC_get (by rw [hfar.len];omega),?_⟩
   refine ⟨_,wrap64 (by omega) (by omega),?_⟩
   refine ⟨fun g2=>?_,fun g2=>?_⟩
   ·have g2:(farAt m.far b==((r+1:Nat):Int) - 1)=true:=g2
    refine ⟨⟨by decide,by decide⟩,?_⟩
    refine ⟨_,rfl,_,den64 m.kept b (by omega) (by omega),?_⟩
    refine ⟨fun g3=>?_,fun g3=>?_⟩
    ·have g3:(!(m.kept.testBit b))=true:=g3
     have en:m.next1 m.far at_ ((r+1:Nat):Int) a b x=x ||| 2^b:=by unfold NetL.next1;rw [if_pos (by rw [g1,g2,g3];rfl)]
     refine ⟨⟨by decide,by decide⟩,?_⟩
     refine ⟨_,rfl,_,den57 b (by omega),?_⟩
     refine ⟨_,bits_or (by omega) (pow_lt62 (by omega)),?_⟩
     refine ⟨(q:Int)+1,wrap64 (by omega) (by omega),?_⟩
     exact ⟨⟨rfl,okB_way rfl (okAll_far _ _) rfl⟩,⟨q+1,_,by omega,en.symm.trans hnx,rfl⟩,less_k (by omega)⟩
    ·have g3:(!(m.kept.testBit b))=false:=g3
     have en:m.next1 m.far at_ ((r+1:Nat):Int) a b x=x:=by unfold NetL.next1;rw [if_neg (by rw [g1,g2,g3];decide)]
     refine ⟨(q:Int)+1,wrap64 (by omega) (by omega),?_⟩
     exact ⟨⟨rfl,okB_way rfl (okAll_far _ _) rfl⟩,⟨q+1,_,by omega,en.symm.trans hnx,rfl⟩,less_k (by omega)⟩
   ·have g2:(farAt m.far b==((r+1:Nat):Int) - 1)=false:=g2
    have en:m.next1 m.far at_ ((r+1:Nat):Int) a b x=x:=by unfold NetL.next1;rw [if_neg (by rw [g1,g2];simp)]
    refine ⟨(q:Int)+1,wrap64 (by omega) (by omega),?_⟩
    exact ⟨⟨rfl,okB_way rfl (okAll_far _ _) rfl⟩,⟨q+1,_,by omega,en.symm.trans hnx,rfl⟩,less_k (by omega)⟩
  ·have g1:at_.testBit a=false:=g1
   have en:m.next1 m.far at_ ((r+1:Nat):Int) a b x=x:=by unfold NetL.next1;rw [if_neg (by rw [g1];simp)]
   refine ⟨(q:Int)+1,wrap64 (by omega) (by omega),?_⟩
   exact ⟨⟨rfl,okB_way rfl (okAll_far _ _) rfl⟩,⟨q+1,_,by omega,en.symm.trans hnx,rfl⟩,less_k (by omega)⟩
 have g0:¬ (q:Int)<2:=of_decide_eq_false g0
 have hq2:q=2:=by omega
 have hx:x=m.next2 m.far at_ ((r+1:Nat):Int) p:=by rw [hx,hq2];rfl
 refine ⟨fun g4=>?_,fun g4=>?_⟩
 ·have g4:((x:Int) != 0)=true:=g4
  have g4:¬ x=0:=by simpa using g4
  rw [← hx,if_pos (by rw [h9];simpa using g4)] at hpst
  rw [hpick,hpst] at hwst
  refine ⟨trivial,iff' (by rw [beq_self];rfl) ⟨Nat.le_of_eq (Nat.zero_add _),?_,_,old_all rfl,_,intsN_app acc i,trivial,?_⟩⟩
  ·rw [hil];show (_+1)*8≤mostBytes;unfold mostBytes;omega
  refine ⟨(r:Int),by rw [e1];exact wrap64 (by omega) (by omega),?_⟩
  exact ⟨⟨rfl,okB3 rfl (okAll_far _ _)⟩,⟨r,x,g+1,acc++[i],by omega,hxlt,by simp;omega,by rw [hrec,hwst,List.append_assoc];rfl,rfl⟩,by show ((r:Nat):Int).toNat<(((r+1:Nat):Int)).toNat;omega⟩
 ·have g4:((x:Int) != 0)=false:=g4
  have g4:x=0:=by simpa using g4
  rw [← hx,if_neg (by rw [g4];simp)] at hpst
  refine ⟨(i:Int)+1,wrap64 (by omega) (by omega),?_⟩
  exact ⟨⟨rfl,okB3 rfl (okAll_far _ _)⟩,⟨i+1,hi',hpick.trans hpst,rfl⟩,less_k (by omega)⟩

end Go.Proofs.Vent

namespace Go.Proofs.Vent
open Go.V Go.Proofs

theorem ex17 (b:Bool) (bl:List Int) (r:List Int × Int) (hl:bl.length<9223372036854775808) (h:(exNt b).joinedR bl=r):DN 17 [netD b,.list 1 (bl.map encI)] (tupLI r) :=
 h ▸ (den17 (exNt b) bl hl).wkargs (.cons (netD_wk b) (.cons (.refl _) .nil))
theorem ex20 (b:Bool) (bl:List Int) (rows:List (List D)) (st:List Vs) (r:Int × Nat × Nat) (hl:bl.length<9223372036854775808) (hr:rows.map (·.map normB)=st.map Vs.enc) (h:(exNt b).afterR bl st=r):DN 20 [netD b,.list 1 (bl.map encI),.list 2 rows] (afterD r) :=
 h ▸ (den20 (exNt b) bl st hl).wkargs (.cons (netD_wk b) (.cons (.refl _) (.cons (wk_rows hr) .nil)))
theorem ex24 (b:Bool) (bl wt:List Int) (r:List Int × Int) (hl:bl.length<9223372036854775808) (hw:wt.length<9223372036854775808) (h:(exNt b).wayN bl wt=r):DN 24 [netD b,.list 1 (bl.map encI),.list 1 (wt.map encI)] (tupLI r) :=
 h ▸ (den24 (exNt b) bl wt hl hw).wkargs (.cons (netD_wk b) (.cons (.refl _) (.cons (.refl _) .nil)))
theorem ex26 (b:Bool) (wt:List Int) (r:List Int × Int) (hw:wt.length<9223372036854775808) (h:(exNt b).blanksR wt=r):DN 26 [netD b,.list 1 (wt.map encI)] (tupLI r) :=
 h ▸ (den26 (exNt b) wt hw).wkargs (.cons (netD_wk b) (.cons (.refl _) .nil))
theorem ex28 (b:Bool) (wt:List Int) (r:List (List Nat) × Int) (hw:wt.length<9223372036854775808) (hk:(exNt b).lookE [] wt true=0→((exNt b).look [] wt).waysF≠none) (h:(exNt b).waysN wt=r):DN 28 [netD b,.list 1 (wt.map encI)] (waysD r) :=
 h ▸ (den28 (exNt b) wt hw hk).wkargs (.cons (netD_wk b) (.cons (.refl _) .nil))
theorem ex29 (b:Bool) (wt:List Int) (ways:List (List Int)) (r:Bool × Int) (hw:wt.length<9223372036854775808) (h1:ways.length<9223372036854775808) (h2:∀ w∈ways,w.length<9223372036854775808) (h:(exNt b).provesN wt ways=r):DN 29 [netD b,.list 1 (wt.map encI),.list 1 (ways.map encW)] (tupBI r) :=
 h ▸ (den29 (exNt b) wt ways hw h1 h2).wkargs (.cons (netD_wk b) (.cons (.refl _) (.cons (.refl _) .nil)))
theorem ex31 (b:Bool) (bl wt:List Int) (k:Int) (r:List Vs × Int) (hl:bl.length<9223372036854775808) (hw:wt.length<9223372036854775808) (h:(exNt b).planN bl wt k=r):DN 31 [netD b,.list 1 (bl.map encI),.list 1 (wt.map encI),.int .i64 k] (tupVI r) :=
 h ▸ (den31 (exNt b) bl wt k hl hw).wkargs (.cons (netD_wk b) (.cons (.refl _) (.cons (.refl _) (.cons (.refl _) .nil))))
theorem ex34 (b:Bool) (bl wt:List Int) (r:Int × Int) (hl:bl.length<9223372036854775808) (hw:wt.length<9223372036854775808) (h:(exNt b).fewN bl wt=r):DN 34 [netD b,.list 1 (bl.map encI),.list 1 (wt.map encI)] (tupII r) :=
 h ▸ (den34 (exNt b) bl wt hl hw).wkargs (.cons (netD_wk b) (.cons (.refl _) (.cons (.refl _) .nil)))

def st3:List Vs:=vsL [(3,false),(4,false),(3,true)]
theorem aw1:(exNt false).joinedR [3,5]=([0,0,0,3,3],0):=by kernel_rfl
theorem aw2:(exNt false).afterR [5] st3=(0,16,16):=by kernel_rfl
theorem aw3:(exNt false).wayN [2] [4]=([0,1,5],0):=by kernel_rfl
theorem aw4:(exNt false).blanksR [3,4]=([0,2],0):=by kernel_rfl
theorem aw5:(exNt true).blanksR [1]=([],9):=by kernel_rfl
theorem aw6a:((exNt false).waysN [3,4]).1.length=2:=by kernel_rfl
theorem aw6b:((exNt false).waysN [3,4]).2=0:=by kernel_rfl
theorem aw6c:(((exNt false).look [] [3,4]).waysF).isSome=true:=by kernel_rfl
theorem aw6:∃ l1 l2,(exNt false).waysN [3,4]=([l1,l2],0):=by
 have h1:=aw6a
 have h2:=aw6b
 obtain ⟨⟨ws,e⟩,hx⟩:∃ x,(exNt false).waysN [3,4]=x:=⟨_,rfl⟩
 rw [hx] at h1 h2 ⊢
 simp only at h1 h2
 match ws,h1 with
 | [l1,l2],_=>exact ⟨l1,l2,by rw [h2]⟩
theorem aw7:(exNt false).provesN [3,4] [[2,3],[0,1,5]]=(true,0):=by kernel_rfl
theorem aw8:(exNt false).provesN [3,4] [[2,3],[2,5]]=(false,0):=by kernel_rfl
theorem aw9:(exNt false).planN [0,2] [3] 3=(long,0):=by kernel_rfl
theorem aw10:(exNt false).fewN [3,5] [3,4]=(2,0):=by kernel_rfl

theorem e19 (a:List Int) (ha:a.length<9223372036854775808):DN 19 [.list 1 (a.map encI),.list 1 (a.map encI)] (.bool true):=by
 have h:=den19 a a ha
 rw [eqInts_eq.2 rfl] at h
 exact h
theorem e22 (a b:List Int) (ha:a.length<9223372036854775808) (hb:b.length<9223372036854775808):DN 22 [.agg [.list 1 (a.map encI),.list 1 (b.map encI)],.agg [.list 1 (a.map encI),.list 1 (b.map encI)]] (.bool true):=by
 have h:=den22 a b a b ha hb
 rw [eqInts_eq.2 rfl,eqInts_eq.2 rfl] at h
 exact h
theorem e33 (a:List Vs) (ha:a.length<9223372036854775808):DN 33 [.list 2 (a.map Vs.enc),.list 2 (a.map Vs.enc)] (.bool true):=by
 have h:=den33 a a ha
 rw [eqVs_eq.2 rfl] at h
 exact h

set_option maxRecDepth 4000 in
set_option maxHeartbeats 8000000 in
theorem den23:DN 23 [] (.bool true):=by
 obtain ⟨l1,l2,h6⟩:=aw6
 have w6:=ex28 false [3,4] _ (by decide) (fun _ h=>by have:=aw6c;rw [h] at this;cases this) h6
 refine mk Try.func23 Try.call23 rfl rfl ?_
 refine ⟨_,rfl,_,den36 false,?_⟩
 refine ⟨_,rfl,_,ex17 false [3,5] _ (by decide) aw1,?_⟩
 refine ⟨_,rfl,_,den36 false,?_⟩
 refine ⟨_,rfl,_,den37 3,?_⟩
 refine ⟨_,rfl,_,den37 4,?_⟩
 refine ⟨_,rfl,_,den38 3,?_⟩
 refine ⟨_,rfl,_,ex20 false [5] _ st3 _ (by decide) rfl aw2,?_⟩
 refine ⟨_,rfl,_,den36 false,?_⟩
 refine ⟨_,rfl,_,ex24 false [2] [4] _ (by decide) (by decide) aw3,?_⟩
 refine ⟨_,rfl,_,den36 false,?_⟩
 refine ⟨_,rfl,_,ex26 false [3,4] _ (by decide) aw4,?_⟩
 refine ⟨_,rfl,_,den36 true,?_⟩
 refine ⟨_,rfl,_,ex26 true [1] _ (by decide) aw5,?_⟩
 refine ⟨_,rfl,_,den36 false,?_⟩
 refine ⟨_,rfl,_,w6,?_⟩
 refine ⟨_,rfl,_,den36 false,?_⟩
 refine ⟨_,rfl,_,rfl,?_⟩
 refine ⟨_,rfl,_,ex29 false [3,4] [[2,3],[0,1,5]] _ (by decide) (by decide) (by decide) aw7,?_⟩
 refine ⟨_,rfl,_,den36 false,?_⟩
 refine ⟨_,rfl,_,rfl,?_⟩
 refine ⟨_,rfl,_,ex29 false [3,4] [[2,3],[2,5]] _ (by decide) (by decide) (by decide) aw8,?_⟩
 refine ⟨_,rfl,_,den36 false,?_⟩
 refine ⟨_,rfl,_,ex31 false [0,2] [3] 3 _ (by decide) (by decide) aw9,?_⟩
 refine ⟨_,rfl,_,den36 false,?_⟩
 refine ⟨_,rfl,_,ex34 false [3,5] [3,4] _ (by decide) (by decide) aw10,?_⟩
 repeat refine ⟨fun _=>?_,fun h=>Bool.noConfusion (show true=false from h)⟩
 refine ⟨_,rfl,_,e19 [0,0,0,3,3] (by decide),?_⟩
 repeat refine ⟨fun _=>?_,fun h=>Bool.noConfusion (show true=false from h)⟩
 refine ⟨_,rfl,_,e22 [4] [4] (by decide) (by decide),?_⟩
 repeat refine ⟨fun _=>?_,fun h=>Bool.noConfusion (show true=false from h)⟩
 refine ⟨_,rfl,_,e19 [0,1,5] (by decide),?_⟩
 repeat refine ⟨fun _=>?_,fun h=>Bool.noConfusion (show true=false from h)⟩
 refine ⟨_,rfl,_,e19 [0,2] (by decide),?_⟩
 repeat refine ⟨fun _=>?_,fun h=>Bool.noConfusion (show true=false from h)⟩
 refine ⟨_,rfl,_,den62,?_⟩
 refine ⟨_,rfl,_,e33 long (by decide),?_⟩
 repeat refine ⟨fun _=>?_,fun h=>Bool.noConfusion (show true=false from h)⟩
 rfl



end Go.Proofs.Vent
