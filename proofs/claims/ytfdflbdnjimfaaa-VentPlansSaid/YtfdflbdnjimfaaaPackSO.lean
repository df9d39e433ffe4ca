/- The document's count, code and Freed; The document's reached: all states that steps lead to, in order. No condition. -/
import Derived.Test.YtfdflbdnjimfaaaPackSL
import Derived.Test.YtfdflbdnjimfaaaPackSF
import Derived.Test.YtfdflbdnjimfaaaPackTJ
import Derived.Test.YtfdflbdnjimfaaaPackTY
import Derived.Test.YtfdflbdnjimfaaaPackTZ

namespace Go.Proofs.Vent
open Go.V Go.Proofs

theorem den106 (b:Nat):DN 106 [.agg (bitsD b)] (.int .i64 ((pop b:Nat):Int)):=by
 refine mk Try.func106 Try.call106 rfl rfl ?_
 refine ⟨_,rfl,_,den61 b,?_⟩
 have:(((tanks b).map encI).length:Int)=((pop b:Nat):Int):=by rw [tanks_eq];simp [pop]
 show some (D.int .i64 (((tanks b).map encI).length:Int))=some (D.int .i64 ((pop b:Nat):Int))
 rw [this]

theorem stA_getF {f b i:Nat} (h:i<7):(stA f b)[0+i]?=some (.bool (f.testBit i)):=by
 rw [Nat.zero_add]
 unfold stA
 rw [List.getElem?_append_left (by rw [bitsD_len];exact h)]
 simp [bitsD,h]
theorem okB_stA {nb f b:Nat}:okBoxes nb [.flat false (stA f b)]=true:=rfl

set_option maxHeartbeats 4000000 in
theorem den107 (f b:Nat):DN 107 [.agg (stA f b)] (.int .i64 ((codeN f b:Nat):Int)):=by
 refine mk Try.func107 Try.call107 rfl rfl ?_
 refine ⟨[1,3,4],1,[],fun σ=>∃ i:Nat,i≤7 ∧
  σ=⟨[(1,.loc 0 0),(3,.int .i64 ((codeF f b i:Nat):Int)),(4,.int .i64 i)],[.flat false (stA f b)],.non⟩,
  fun σ=>(1000 - slotI 4 σ).toNat,rfl,⟨rfl,rfl⟩,⟨0,Nat.zero_le _,rfl⟩,?_⟩
 rintro σ ⟨i,hi,rfl⟩
 refine ⟨fun q1=>?_,fun q1=>?_⟩
 rotate_left
 ·have q1:¬ (i:Int)<7:=of_decide_eq_false q1
  obtain rfl:i=7:=by omega
  rfl
 have q1:(i:Int)<7:=of_decide_eq_true q1
 have hi':i<7:=by omega
 have less:(1000 - ((i:Int)+1)).toNat<(1000 - (i:Int)).toNat:=by omega
 have hlt:=codeF_lt f b i
 have h4:4^i≤4096:=Nat.pow_le_pow_right (by decide) (show i≤6 by omega)
 have hst:codeF f b (i+1)=4*codeF f b i+(if f.testBit i=true then 1 else 0)+(if b.testBit i=true then 2 else 0):=rfl
 obtain ⟨c,hc⟩:∃ c,codeF f b i=c:=⟨_,rfl⟩
 obtain ⟨c',hc'⟩:∃ c,codeF f b (i+1)=c:=⟨_,rfl⟩
 rw [hc,hc'] at hst
 rw [hc] at hlt ⊢
 refine ⟨4*(c:Int),wrap64 (by omega) (by omega),?_⟩
 refine ⟨⟨by omega,by omega⟩,i,Nat.mul_one _,?_⟩
 refine ⟨_,stA_getF hi',?_⟩
 refine ⟨fun q2=>?_,fun q2=>?_⟩
 ·have q2:f.testBit i=true:=q2
  rw [if_pos q2] at hst
  refine ⟨4*(c:Int)+1,wrap64 (by omega) (by omega),?_⟩
  refine ⟨⟨by omega,by omega⟩,i,Nat.mul_one _,?_⟩
  refine ⟨_,stA_getB hi',?_⟩
  refine ⟨fun q3=>?_,fun q3=>?_⟩
  ·have q3:b.testBit i=true:=q3
   rw [if_pos q3] at hst
   refine ⟨((c':Nat):Int),(wrap64 (by omega) (by omega)).trans (by omega),?_⟩
   refine ⟨(i:Int)+1,wrap64 (by omega) (by omega),?_⟩
   exact ⟨⟨rfl,rfl⟩,⟨i+1,by omega,by rw [hc'];rfl⟩,less⟩
  ·have q3:b.testBit i=false:=q3
   rw [if_neg (by rw [q3];decide)] at hst
   have e:4*(c:Int)+1=((c':Nat):Int):=by omega
   refine ⟨(i:Int)+1,wrap64 (by omega) (by omega),?_⟩
   exact ⟨⟨rfl,rfl⟩,⟨i+1,by omega,by rw [hc',← e];rfl⟩,less⟩
 ·have q2:f.testBit i=false:=q2
  rw [if_neg (by rw [q2];decide)] at hst
  refine ⟨⟨by omega,by omega⟩,i,Nat.mul_one _,?_⟩
  refine ⟨_,stA_getB hi',?_⟩
  refine ⟨fun q3=>?_,fun q3=>?_⟩
  ·have q3:b.testBit i=true:=q3
   rw [if_pos q3] at hst
   refine ⟨((c':Nat):Int),(wrap64 (by omega) (by omega)).trans (by omega),?_⟩
   refine ⟨(i:Int)+1,wrap64 (by omega) (by omega),?_⟩
   exact ⟨⟨rfl,rfl⟩,⟨i+1,by omega,by rw [hc'];rfl⟩,less⟩
  ·have q3:b.testBit i=false:=q3
   rw [if_neg (by rw [q3];decide)] at hst
   have e:4*(c:Int)=((c':Nat):Int):=by omega
   refine ⟨(i:Int)+1,wrap64 (by omega) (by omega),?_⟩
   exact ⟨⟨rfl,rfl⟩,⟨i+1,by omega,by rw [hc',← e];rfl⟩,less⟩

def freedB (wt:List Int) (f b:Nat):Bool:=wt.all (fun w=>f.testBit w.toNat) && (((pop b:Nat):Int)==0)
theorem freedB_goal {n:Nt} {bl wt:List Int} (hn:n.Ok) (hin:inAll n.tanks.length wt) {f b:Nat} (hb:b<2^7):freedB wt f b=(n.look bl wt).goalS f b:=by
 have h7:=hn.t7
 apply Bool.eq_iff_iff.2
 rw [goalS_iff,← all_iff (bl:=bl) hn hin]
 unfold freedB
 rw [Bool.and_eq_true]
 have h1:wt.all (fun w=>f.testBit w.toNat)=wt.all (hasI (tanks f)):=by
  apply Bool.eq_iff_iff.2
  rw [List.all_eq_true,List.all_eq_true]
  have key:∀ v∈wt,f.testBit v.toNat=hasI (tanks f) v:=fun v hv=>by
   have h3:=hin v hv
   obtain ⟨t,rfl⟩:∃ t:Nat,v=t:=⟨v.toNat,by omega⟩
   rw [hasI_tanks (by omega),Int.toNat_natCast]
  exact ⟨fun h v hv=>by rw [← key v hv];exact h v hv,fun h v hv=>by rw [key v hv];exact h v hv⟩
 have h2:(((pop b:Nat):Int)==0)=true↔b=0:=by
  rw [beq_iff_eq,← tanks_nil hb]
  have:(tanks b).length=pop b:=by rw [tanks_eq];simp [pop]
  omega
 rw [h1,h2]
 exact ⟨fun h=>⟨h.2,h.1⟩,fun h=>⟨h.2,h.1⟩⟩

set_option maxHeartbeats 4000000 in
theorem den99 (f b:Nat) (wt:List Int) (hwl:wt.length<9223372036854775808) (hw:∀ v∈wt,0≤v∧v<7):DN 99 [.agg (stA f b),.list 1 (wt.map encI)] (.bool (freedB wt f b)):=by
 refine mk Try.func99 Try.call99 rfl rfl ?_
 have hwI:=encI_lenI wt
 refine ⟨[1,2,5],1,[],fun σ=>∃ i:Nat,i≤wt.length∧wt.all (fun w=>f.testBit w.toNat)=(wt.drop i).all (fun w=>f.testBit w.toNat) ∧
  σ=⟨[(1,.list 1 (wt.map encI)),(2,.loc 0 0),(5,.int .i64 i)],[.flat false (stA f b)],.non⟩,
  fun σ=>((wt.length:Int) - slotI 5 σ).toNat,rfl,⟨rfl,rfl⟩,⟨0,Nat.zero_le _,rfl,rfl⟩,?_⟩
 rintro σ ⟨i,hi,hall,rfl⟩
 refine ⟨fun q1=>?_,fun q1=>?_⟩
 rotate_left
 ·have q1:=of_decide_eq_false q1
  rw [hwI] at q1
  rw [List.drop_of_length_le (by omega)] at hall
  refine ⟨_,rfl,_,den106 b,?_⟩
  show some (D.bool (((pop b:Nat):Int)==0))=some (D.bool (freedB wt f b))
  unfold freedB
  rw [hall]
  rfl
 have q1:=of_decide_eq_true q1
 rw [hwI] at q1
 have hi':i<wt.length:=by omega
 have less:((wt.length:Int) - ((i:Int)+1)).toNat<((wt.length:Int) - (i:Int)).toNat:=by omega
 obtain ⟨v,hv⟩:∃ v,wt[i]'hi'=v:=⟨_,rfl⟩
 have hvr:=hw v (hv ▸ List.getElem_mem hi')
 have hrow:=encI_get hi'
 rw [hv] at hrow
 rw [List.drop_eq_getElem_cons hi',hv,List.all_cons] at hall
 refine ⟨by omega,_,hrow,?_⟩
 refine ⟨⟨by omega,by omega⟩,_,Nat.mul_one _,?_⟩
 refine ⟨_,stA_getF (by omega),?_⟩
 refine ⟨fun q2=>?_,fun q2=>?_⟩
 ·have q2:(!(f.testBit v.toNat))=true:=q2
  have q2:f.testBit v.toNat=false:=by simpa using q2
  rw [q2] at hall
  show some (D.bool false)=some (D.bool (freedB wt f b))
  unfold freedB
  rw [hall]
  rfl
 ·have q2:(!(f.testBit v.toNat))=false:=q2
  have q2:f.testBit v.toNat=true:=by simpa using q2
  rw [q2,Bool.true_and] at hall
  refine ⟨(i:Int)+1,wrap64 (by omega) (by omega),?_⟩
  exact ⟨⟨rfl,rfl⟩,⟨i+1,hi',hall,rfl⟩,less⟩

end Go.Proofs.Vent

namespace Go.Proofs.Vent
open Go.V Go.Proofs

def frm (K:List En) (e:En):Int:=match idx K e.pf e.pb with | some j=>j | none=>0
def rowP (K:List En) (e:En):List D:=stA e.f e.b++[.int .i64 (frm K e),.int .i64 (e.tank:Int),.bool e.off]
def rootP:List D:=[.ff,.ff,.ff,.ff,.ff,.ff,.ff,.ff,.ff,.ff,.ff,.ff,.ff,.ff,.int .i64 (-1),.int .i64 0,.ff]
def rootN:List D:=stA 0 0++[.int .i64 (-1),.int .i64 0,.bool false]
def rowsP:List En→List (List D)
 | []=>[]
 | a::r=>rootP::r.map (rowP (a::r))
def rowsN:List En→List (List D)
 | []=>[]
 | a::r=>rootN::r.map (rowP (a::r))
theorem rowP_norm (K:List En) (e:En):(rowP K e).map normB=rowP K e:=rfl
theorem rowsP_norm:∀ K:List En,(rowsP K).map (·.map normB)=rowsN K
 | []=>rfl
 | a::r=>by
  unfold rowsP rowsN
  rw [List.map_cons,List.map_map]
  have h1:rootP.map normB=rootN:=by simp [rootP,rootN,stA,bitsD,List.range,List.range.loop,normB]
  rw [h1]
  congr 1
theorem rowsP_len:∀ K:List En,(rowsP K).length=K.length
 | []=>rfl
 | a::r=>by simp [rowsP]
theorem rowsP_snoc {K:List En} (h:Known K) (x:En):rowsP (K++[x])=rowsP K++[rowP (K++[x]) x]:=by
 cases K with
 | nil=>have:=h.ne;cases this
 | cons a r =>
  show rootP::(r++[x]).map (rowP (a::(r++[x])))=rootP::r.map (rowP (a::r))++[rowP (a::r++[x]) x]
  rw [List.map_append,List.cons_append]
  congr 1
  have:r.map (rowP (a::(r++[x])))=r.map (rowP (a::r)):=by
   refine List.map_congr_left fun e he=>?_
   obtain ⟨i,hi⟩:=List.mem_iff_getElem?.1 he
   obtain ⟨j,hj,_⟩:=h.par (i+1) e (by simpa using hi) (by omega)
   have h2:=idx_app [x] hj
   rw [List.cons_append] at h2
   unfold rowP frm
   rw [hj,h2]
  rw [this]
  rfl
theorem rowsP_zero {K:List En} (h:Known K):(rowsP K)[0]?=some rootP:=by
 cases K with
 | nil=>have:=h.ne;cases this
 | cons a r=>rfl
theorem rowsP_get {K:List En} {i:Nat} {e:En} (he:K[i]?=some e) (hi:0<i):(rowsP K)[i]?=some (rowP K e):=by
 cases K with
 | nil=>cases he
 | cons a r =>
  obtain ⟨i,rfl⟩:∃ j,i=j+1:=⟨i - 1,by omega⟩
  show (r.map (rowP (a::r)))[i]?=_
  rw [List.getElem?_map]
  have:r[i]?=some e:=by simpa using he
  rw [this];rfl

def knownC (K:List En) (c:Nat):Bool:=K.any fun e=>codeN e.f e.b==c
def rowsO (K:List En):List (List D):=(List.range 16384).map fun c=>[bD (knownC K c)]
theorem rowsO_len (K:List En):(rowsO K).length=16384:=by simp [rowsO]
theorem rowsO_get {K:List En} {c:Nat} (h:c<16384):(rowsO K)[c]?=some [bD (knownC K c)]:=by simp [rowsO,h]
theorem rowsO_zero:List.replicate 16384 [D.ff]=rowsO []:=by
 apply List.ext_getElem?
 intro j
 unfold rowsO
 rw [List.getElem?_replicate,List.getElem?_map]
 by_cases hj:j<16384
 ·rw [if_pos hj,List.getElem?_range hj];rfl
 ·rw [if_neg hj,List.getElem?_eq_none (by rw [List.length_range];omega)];rfl
theorem rowsO_set {K:List En} {e:En}:(rowsO K).set (codeN e.f e.b) [.tt]=rowsO (K++[e]):=by
 apply List.ext_getElem?
 intro j
 rw [List.getElem?_set]
 unfold rowsO
 rw [List.length_map,List.length_range,List.getElem?_map,List.getElem?_map]
 by_cases hc:codeN e.f e.b=j
 ·subst hc
  have:=codeN_lt e.f e.b
  rw [if_pos rfl,if_pos this,List.getElem?_range this]
  simp [knownC,bD]
 ·rw [if_neg hc]
  by_cases hj:j<16384
  ·rw [List.getElem?_range hj]
   simp only [Option.map_some,knownC,List.any_append,List.any_cons,List.any_nil,Bool.or_false]
   rw [show (codeN e.f e.b==j)=false by simpa using hc,Bool.or_false]
  ·rw [List.getElem?_eq_none (by rw [List.length_range];omega)];rfl
theorem known_idx {K:List En} (h:Known K) {f b:Nat} (hf:f<2^7) (hb:b<2^7):knownC K (codeN f b)=(idx K f b).isSome:=by
 apply Bool.eq_iff_iff.2
 unfold knownC
 rw [List.any_eq_true,Option.isSome_iff_exists]
 constructor
 ·rintro ⟨e,he,hc⟩
  obtain ⟨h1,h2⟩:=h.lt e he
  obtain ⟨h3,h4⟩:=codeN_inj h1 h2 hf hb (beq_iff_eq.1 hc)
  exact idx_some_of he h3 h4
 ·rintro ⟨i,hi⟩
  obtain ⟨e,h1,h2,h3⟩:=idx_get hi
  exact ⟨e,List.mem_of_getElem? h1,by rw [h2,h3];exact beq_self_eq_true _⟩
theorem rowsO_root:(rowsO []).set 0 [.tt]=rowsO [root]:=by
 have h:codeN root.f root.b=0:=by decide
 have:=rowsO_set (K:=[]) (e:=root)
 rw [h] at this
 exact this

end Go.Proofs.Vent
