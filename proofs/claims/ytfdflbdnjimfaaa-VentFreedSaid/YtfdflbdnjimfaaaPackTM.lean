/- The statements' Any: steps that can be done. No condition. -/
import Derived.Test.YtfdflbdnjimfaaaPackTK
import Derived.Test.YtfdflbdnjimfaaaPackTC

namespace Go.Proofs.Vent
open Go.V Go.Proofs

abbrev AnyS:=List Vs × List Bool × Int
def anyStep (n:Nt) (bw:Int) (b:Nat) (s:AnyS):AnyS :=
 if (n.keptB (b % n.tanks.length) || (!(s.2.1.getD (b % n.tanks.length) false) && decide (s.2.2 ≥ bw)))=true then s
 else (s.1++[⟨((b % n.tanks.length:Nat):Int),s.2.1.getD (b % n.tanks.length) false⟩],s.2.1.set (b % n.tanks.length) (!(s.2.1.getD (b % n.tanks.length) false)),if s.2.1.getD (b % n.tanks.length) false=true then s.2.2 - 1 else s.2.2+1)
def anyL (n:Nt) (bw:Int):List Nat→AnyS→AnyS
 | [],s=>s
 | b::r,s=>if s.1.length<60 then anyL n bw r (anyStep n bw b s) else s
def beginL:List Vs→List Bool × Int→List Bool × Int
 | [],s=>s
 | x::r,s=>beginL r (s.1.set x.tank.toNat (!x.off),if x.off=true then s.2 - 1 else s.2+1)
def anyR (n:Nt) (bg:List Vs) (xs:List Nat) (bw:Int):List Vs:=(anyL n bw xs (bg,beginL bg ([false,false,false,false,false,false,false],0))).1
def encB (b:Nat):List D:=[.int .u8 b]
def TellR (R:List (List D)) (out:List Vs):Prop:=R.map (·.map normB)=out.map Vs.enc
theorem TellR.refl (out:List Vs):TellR (out.map Vs.enc) out:=by
 unfold TellR
 rw [List.map_map]
 refine List.map_congr_left fun x _=>?_
 rfl
theorem TellR.app {R:List (List D)} {out:List Vs} (h:TellR R out) {k:Int} {d:D} {v:Bool} (hd:normB d=.bool v):TellR (R++[[.int .i64 k,d]]) (out++[⟨k,v⟩]):=by
 unfold TellR at h ⊢
 rw [List.map_append,List.map_append,h]
 show _++[[_,normB d]]=_
 rw [hd]
 rfl
theorem TellR.len {R:List (List D)} {out:List Vs} (h:TellR R out):R.length=out.length:=by
 have:=congrArg List.length h
 simpa using this
theorem tellB_get {cs:List D} {op:List Bool} (h:TellB cs op) {k:Nat} (hk:k<op.length):∃ d,cs[0+k]?=some d∧(d=.bool (op.getD k false)∨(d=.tt∧op.getD k false=true)∨(d=.ff∧op.getD k false=false)):=by
 have hl:=h.len
 have hkc:k<cs.length:=by omega
 refine ⟨cs[k],by rw [Nat.zero_add];exact List.getElem?_eq_getElem hkc,?_⟩
 unfold TellB at h
 have h1:(cs.map normB)[k]?=(op.map D.bool)[k]?:=by rw [h]
 rw [List.getElem?_map,List.getElem?_map,List.getElem?_eq_getElem hkc,List.getElem?_eq_getElem hk] at h1
 have h2:normB cs[k]=.bool op[k]:=Option.some.inj h1
 have h3:op.getD k false=op[k]:=by simp [List.getD_eq_getElem?_getD,List.getElem?_eq_getElem hk]
 rw [h3]
 exact normB_inv h2
theorem okB_any {e:List D} {R:List (List D)} {g:Nat} {cs:List D} {j:List (List D)} {gj sj:Nat} (he:okAll 4 e=true) (hc:okAll 4 cs=true):okBoxes 4 [.flat false e,.rows false gj sj j,.rows false g 2 R,.flat false cs]=true:=by
 simp [okBoxes,he,hc]

set_option maxHeartbeats 40000000 in
theorem den44 (n:Nt) (hn:n.Ok) (bg:List Vs) (xs:List Nat) (bw:Int) (hbg:bg.length≤60) (hb7:∀ x∈bg,0≤x.tank∧x.tank<7) (hxs:xs.length<9223372036854775808) (hx8:∀ b∈xs,b<256) :
    DN 44 [.agg n.enc,.list 2 (bg.map Vs.enc),.list 1 (xs.map encB),.int .i64 bw] (.list 2 ((anyR n bg xs bw).map Vs.enc)):=by
  have h7:=hn.t7
  have h1t:=hn.t1
  have hgl:((bg.map Vs.enc).length:Int)=bg.length:=by simp
  have hxl:((xs.map encB).length:Int)=xs.length:=by simp
  have htl:((n.tanks.map Tk.enc).length:Int)=n.tanks.length:=by simp
  refine mkW Try.func44 Try.call44 rfl rfl ?_
  refine ⟨trivial,?_,?_⟩
  ·rw [List.length_map];show _*16≤mostBytes;unfold mostBytes;omega
  refine ⟨[1,2,3,4,9,10,11,12],4,[],fun σ=>∃ (i:Nat) (op:List Bool) (cs:List D) (now:Int),i≤bg.length∧op.length=7∧TellB cs op∧-(i:Int)≤now∧now≤i∧beginL bg ([false,false,false,false,false,false,false],0)=beginL (bg.drop i) (op,now) ∧
   σ=⟨[(1,.list 2 (bg.map Vs.enc)),(2,.list 1 (xs.map encB)),(3,.int .i64 bw),(4,.loc 0 0),(9,.sl 2 0 0 (bg.map Vs.enc).length),(10,.loc 3 0),(11,.int .i64 now),(12,.int .i64 i)],[.flat false n.enc,.rows false 0 2 [],.rows false 0 2 (bg.map Vs.enc),.flat false cs],.non⟩,
   fun σ=>(1000 - slotI 12 σ).toNat,rfl,⟨rfl,rfl⟩,⟨0,[false,false,false,false,false,false,false],[.ff,.ff,.ff,.ff,.ff,.ff,.ff],0,Nat.zero_le _,rfl,rfl,by decide,by decide,rfl,rfl⟩,?_⟩
  rintro σ ⟨i,op,cs,now,hi,hop,htell,hn1,hn2,hrec,rfl⟩
  have hcl:cs.length=7:=by rw [htell.len,hop]
  refine ⟨fun q1=>?_,fun q1=>?_⟩
  ·have q1:=of_decide_eq_true q1
   rw [hgl] at q1
   have hi':i<bg.length:=by omega
   have less:(1000 - ((i:Int)+1)).toNat<(1000 - (i:Int)).toNat:=by omega
   obtain ⟨x,hx⟩:∃ x,bg[i]'hi'=x:=⟨_,rfl⟩
   have hxb:=hb7 x (hx ▸ List.getElem_mem hi')
   have hdrop:bg.drop i=x::bg.drop (i+1):=by rw [List.drop_eq_getElem_cons hi',hx]
   have hrow:(bg.map Vs.enc)[((i:Int)).toNat]?=some x.enc:=by simp [hi',hx]
   rw [hdrop] at hrec
   have hrec:beginL bg ([false,false,false,false,false,false,false],0)=beginL (bg.drop (i+1)) (op.set x.tank.toNat (!x.off),if x.off=true then now - 1 else now+1):=hrec
   have htell2:=htell.set x.tank.toNat (d:=.bool (!x.off)) (b:=!x.off) rfl
   refine Or.inl ⟨by kernel_rfl,?_⟩
   refine ⟨by omega,_,hrow,?_⟩
   refine ⟨by omega,_,hrow,?_⟩
   refine ⟨⟨by omega,by omega⟩,_,Nat.mul_one _,?_⟩
   refine ⟨by rw [hcl];show 0+_+1≤7;omega,_,(by rw [Nat.zero_add];exact splice_set (by omega):splice cs (0+x.tank.toNat) [.bool (!x.off)]=cs.set x.tank.toNat (.bool (!x.off))),?_⟩
   refine ⟨by omega,_,hrow,?_⟩
   refine ⟨fun q2=>?_,fun q2=>?_⟩
   ·have q2:x.off=true:=q2
    rw [if_pos q2] at hrec
    refine ⟨now - 1,wrap64 (by omega) (by omega),?_⟩
    refine ⟨(i:Int)+1,wrap64 (by omega) (by omega),?_⟩
    exact ⟨⟨rfl,okB_any rfl (htell2.okAll 4)⟩,⟨i+1,_,_,now - 1,hi',by rw [List.length_set];exact hop,htell2,by omega,by omega,hrec,rfl⟩,less⟩
   ·have q2:x.off=false:=q2
    rw [if_neg (by rw [q2];decide)] at hrec
    refine ⟨now+1,wrap64 (by omega) (by omega),?_⟩
    refine ⟨(i:Int)+1,wrap64 (by omega) (by omega),?_⟩
    exact ⟨⟨rfl,okB_any rfl (htell2.okAll 4)⟩,⟨i+1,_,_,now+1,hi',by rw [List.length_set];exact hop,htell2,by omega,by omega,hrec,rfl⟩,less⟩
  have q1:=of_decide_eq_false q1
  rw [hgl] at q1
  rw [List.drop_of_length_le (by omega)] at hrec
  have hA:anyR n bg xs bw=(anyL n bw xs (bg,op,now)).1:=by unfold anyR;rw [hrec];rfl
  rw [hA]
  clear hrec hA
  have hnb:-60≤now∧now≤60:=by omega
  obtain ⟨now0,hnow0⟩:∃ x,now=x:=⟨_,rfl⟩
  subst hnow0
  refine ⟨[2,3,4,9,10,11,13],4,[],fun σ=>∃ (i g:Nat) (out:List Vs) (op1:List Bool) (now1:Int) (R:List (List D)) (cs:List D),i≤xs.length∧op1.length=7∧TellB cs op1∧TellR R out∧out.length≤60∧-60 - (out.length:Int)≤now1∧now1≤60+out.length ∧
   anyL n bw xs (bg,op,now)=anyL n bw (xs.drop i) (out,op1,now1) ∧
   σ=⟨[(2,.list 1 (xs.map encB)),(3,.int .i64 bw),(4,.loc 0 0),(9,.sl 2 g 0 R.length),(10,.loc 3 0),(11,.int .i64 now1),(13,.int .i64 i)],[.flat false n.enc,.rows false 0 2 [],.rows false g 2 R,.flat false cs],.non⟩,
   fun σ=>((xs.length:Int) - slotI 13 σ).toNat,rfl,⟨rfl,okB_any rfl (htell.okAll 4)⟩,⟨0,0,bg,op,now,_,cs,Nat.zero_le _,hop,htell,.refl bg,hbg,by omega,by omega,rfl,rfl⟩,?_⟩
  clear hcl htell
  rintro σ ⟨i,g,out,op1,now1,R,cs,hi,hop1,htell,htr,hol,hn3,hn4,hrec,rfl⟩
  have hcl:cs.length=7:=by rw [htell.len,hop1]
  have hRl:=htr.len
  have hRi:((R.length:Nat):Int)=out.length:=by rw [hRl]
  have hrR:reify [Box.flat false n.enc,Box.rows false 0 2 [],Box.rows false g 2 R,Box.flat false cs] 8 (.sl 2 g 0 R.length)=some (.list 2 R):=reify_sl rfl rfl
  have fin:anyL n bw xs (bg,op,now)=(out,op1,now1)→∃ d0,some (D.list 2 R)=some d0∧Wk d0 (.list 2 ((anyL n bw xs (bg,op,now)).1.map Vs.enc)):=fun h=>by
   rw [h]
   exact ⟨_,rfl,Wk.rows' htr⟩
  refine ⟨fun q1=>?_,fun q1=>?_⟩
  rotate_left
  ·have q1:=of_decide_eq_false q1
   rw [hxl] at q1
   rw [List.drop_of_length_le (by omega)] at hrec
   obtain ⟨d0,h1,h2⟩:=fin hrec
   exact ⟨d0,hrR.trans h1,h2⟩
  have q1:=of_decide_eq_true q1
  rw [hxl] at q1
  have hi':i<xs.length:=by omega
  obtain ⟨b,hbx⟩:∃ b,xs[i]'hi'=b:=⟨_,rfl⟩
  have hb8:=hx8 b (hbx ▸ List.getElem_mem hi')
  have hrow:(xs.map encB)[((i:Int)).toNat]?=some [.int .u8 (b:Int)]:=by simp [hi',hbx,encB]
  rw [List.drop_eq_getElem_cons hi',hbx] at hrec
  have less:((xs.length:Int) - ((i:Int)+1)).toNat<((xs.length:Int) - (i:Int)).toNat:=by omega
  refine ⟨fun q2=>?_,fun q2=>?_⟩
  rotate_left
  ·have q2:¬ ((R.length:Nat):Int)<60:=of_decide_eq_false q2
   have hrec:anyL n bw xs (bg,op,now)=if out.length<60 then anyL n bw (xs.drop (i+1)) (anyStep n bw b (out,op1,now1)) else (out,op1,now1):=hrec
   rw [if_neg (by omega)] at hrec
   obtain ⟨d0,h1,h2⟩:=fin hrec
   exact ⟨d0,hrR.trans h1,h2⟩
  have q2:((R.length:Nat):Int)<60:=of_decide_eq_true q2
  have hrec:anyL n bw xs (bg,op,now)=if out.length<60 then anyL n bw (xs.drop (i+1)) (anyStep n bw b (out,op1,now1)) else (out,op1,now1):=hrec
  rw [if_pos (by omega)] at hrec
  have hk:b % n.tanks.length<n.tanks.length:=Nat.mod_lt _ (by omega)
  have hmod:((b:Nat):Int).tmod ((n.tanks.map Tk.enc).length:Int)=((b % n.tanks.length:Nat):Int):=by
   rw [htl,Int.tmod_eq_emod_of_nonneg (Int.natCast_nonneg _)]
   exact (Int.natCast_emod _ _).symm
  obtain ⟨k,hkk⟩:∃ k,b % n.tanks.length=k:=⟨_,rfl⟩
  have hst:anyStep n bw b (out,op1,now1)=if (n.keptB k || (!(op1.getD k false) && decide (now1 ≥ bw)))=true then (out,op1,now1) else (out++[⟨(k:Int),op1.getD k false⟩],op1.set k (!(op1.getD k false)),if op1.getD k false=true then now1 - 1 else now1+1):=by
   unfold anyStep
   rw [hkk]
  rw [hkk] at hk hmod
  obtain ⟨tk,htk⟩:∃ tk,n.tanks[k]?=some tk:=⟨_,List.getElem?_eq_getElem hk⟩
  have htrow:(n.tanks.map Tk.enc)[((k:Nat):Int).toNat]?=some tk.enc:=by rw [Int.toNat_natCast,List.getElem?_map,htk];rfl
  have hkb:=keptB_get (n:=n) htk
  rw [hkb] at hst
  refine Or.inl ⟨by kernel_rfl,?_⟩
  refine ⟨by omega,_,hrow,?_⟩
  refine ⟨(b:Int),wrap64 (by omega) (by omega),?_⟩
  refine ⟨by omega,_,hmod,?_⟩
  refine ⟨by omega,_,htrow,?_⟩
  refine ⟨fun q3=>?_,fun q3=>?_⟩
  ·have q3:tk.kept=true:=q3
   rw [if_pos (by rw [q3];rfl)] at hst
   rw [hst] at hrec
   refine ⟨(i:Int)+1,wrap64 (by omega) (by omega),?_⟩
   exact ⟨⟨rfl,okB_any rfl (htell.okAll 4)⟩,⟨i+1,g,out,op1,now1,R,cs,hi',hop1,htell,htr,hol,hn3,hn4,hrec,rfl⟩,less⟩
  have q3:tk.kept=false:=q3
  rw [q3,Bool.false_or] at hst
  obtain ⟨d,hd,hdc⟩:=tellB_get htell (k:=k) (by omega)
  have hlk:=fun (x:D)=>(by rw [Nat.zero_add];exact splice_set (by omega):splice cs (0+k) [x]=cs.set k x)
  obtain ⟨has,hhas⟩:∃ v,op1.getD k false=v:=⟨_,rfl⟩
  rw [hhas] at hdc hst
  rcases hdc with rfl | ⟨rfl,rfl⟩ | ⟨rfl,rfl⟩
  ·cases has with
   | true =>
    refine ⟨⟨by omega,by omega⟩,_,Nat.mul_one _,?_⟩
    refine ⟨_,hd,?_⟩
    refine ⟨fun h=>absurd h (by decide),fun _=>?_⟩
    rw [if_neg (by simp),if_pos rfl] at hst
    refine ⟨⟨by omega,by omega⟩,_,Nat.mul_one _,?_⟩
    refine ⟨_,hd,?_⟩
    refine ⟨trivial,iff' (by rw [beq_self];rfl) ⟨Nat.le_of_eq (Nat.zero_add _),?_,_,old_all rfl,_,rfl,trivial,?_⟩⟩
    ·rw [hRl];show (_+1)*16≤mostBytes;unfold mostBytes;omega
    refine ⟨⟨by omega,by omega⟩,_,Nat.mul_one _,?_⟩
    refine ⟨_,hd,?_⟩
    refine ⟨fun _=>?_,fun h=>absurd h (by decide)⟩
    refine ⟨now1 - 1,wrap64 (by omega) (by omega),?_⟩
    refine ⟨⟨by omega,by omega⟩,_,Nat.mul_one _,?_⟩
    refine ⟨_,hd,?_⟩
    refine ⟨⟨by omega,by omega⟩,_,Nat.mul_one _,?_⟩
    refine ⟨by rw [hcl];show 0+_+1≤7;omega,_,hlk _,?_⟩
    have htell2:=htell.set k (d:=.bool (!true)) (b:=false) rfl
    have htr2:=htr.app (k:=(k:Int)) (d:=.bool true) (v:=true) rfl
    rw [hst] at hrec
    refine ⟨(i:Int)+1,wrap64 (by omega) (by omega),?_⟩
    exact ⟨⟨rfl,okB_any rfl (htell2.okAll 4)⟩,⟨i+1,g+1,_,_,now1 - 1,_,_,hi',by rw [List.length_set];exact hop1,htell2,htr2,by simp;omega,by simp;omega,by simp;omega,hrec,rfl⟩,less⟩
   | false =>
    refine ⟨⟨by omega,by omega⟩,_,Nat.mul_one _,?_⟩
    refine ⟨_,hd,?_⟩
    refine ⟨fun _=>?_,fun h=>absurd h (by decide)⟩
    refine ⟨fun q4=>?_,fun q4=>?_⟩
    ·have q4:now1 ≥ bw:=of_decide_eq_true q4
     rw [if_pos (by rw [decide_eq_true q4];rfl)] at hst
     rw [hst] at hrec
     refine ⟨(i:Int)+1,wrap64 (by omega) (by omega),?_⟩
     exact ⟨⟨rfl,okB_any rfl (htell.okAll 4)⟩,⟨i+1,g,out,op1,now1,R,cs,hi',hop1,htell,htr,hol,hn3,hn4,hrec,rfl⟩,less⟩
    ·have q4:¬ now1 ≥ bw:=of_decide_eq_false q4
     rw [if_neg (by rw [decide_eq_false q4];decide),if_neg (by decide)] at hst
     refine ⟨⟨by omega,by omega⟩,_,Nat.mul_one _,?_⟩
     refine ⟨_,hd,?_⟩
     refine ⟨trivial,iff' (by rw [beq_self];rfl) ⟨Nat.le_of_eq (Nat.zero_add _),?_,_,old_all rfl,_,rfl,trivial,?_⟩⟩
     ·rw [hRl];show (_+1)*16≤mostBytes;unfold mostBytes;omega
     refine ⟨⟨by omega,by omega⟩,_,Nat.mul_one _,?_⟩
     refine ⟨_,hd,?_⟩
     refine ⟨fun h=>absurd h (by decide),fun _=>?_⟩
     refine ⟨now1+1,wrap64 (by omega) (by omega),?_⟩
     refine ⟨⟨by omega,by omega⟩,_,Nat.mul_one _,?_⟩
     refine ⟨_,hd,?_⟩
     refine ⟨⟨by omega,by omega⟩,_,Nat.mul_one _,?_⟩
     refine ⟨by rw [hcl];show 0+_+1≤7;omega,_,hlk _,?_⟩
     have htell2:=htell.set k (d:=.bool (!false)) (b:=true) rfl
     have htr2:=htr.app (k:=(k:Int)) (d:=.bool false) (v:=false) rfl
     rw [hst] at hrec
     refine ⟨(i:Int)+1,wrap64 (by omega) (by omega),?_⟩
     exact ⟨⟨rfl,okB_any rfl (htell2.okAll 4)⟩,⟨i+1,g+1,_,_,now1+1,_,_,hi',by rw [List.length_set];exact hop1,htell2,htr2,by simp;omega,by simp;omega,by simp;omega,hrec,rfl⟩,less⟩
  ·skip
   refine ⟨⟨by omega,by omega⟩,_,Nat.mul_one _,?_⟩
   refine ⟨_,hd,?_⟩
   rw [if_neg (by simp),if_pos rfl] at hst
   refine ⟨⟨by omega,by omega⟩,_,Nat.mul_one _,?_⟩
   refine ⟨_,hd,?_⟩
   refine ⟨trivial,iff' (by rw [beq_self];rfl) ⟨Nat.le_of_eq (Nat.zero_add _),?_,_,old_all rfl,_,rfl,trivial,?_⟩⟩
   ·rw [hRl];show (_+1)*16≤mostBytes;unfold mostBytes;omega
   refine ⟨⟨by omega,by omega⟩,_,Nat.mul_one _,?_⟩
   refine ⟨_,hd,?_⟩
   refine ⟨now1 - 1,wrap64 (by omega) (by omega),?_⟩
   refine ⟨⟨by omega,by omega⟩,_,Nat.mul_one _,?_⟩
   refine ⟨_,hd,?_⟩
   refine ⟨⟨by omega,by omega⟩,_,Nat.mul_one _,?_⟩
   refine ⟨by rw [hcl];show 0+_+1≤7;omega,_,hlk _,?_⟩
   have htell2:=htell.set k (d:=.ff) (b:=false) rfl
   have htr2:=htr.app (k:=(k:Int)) (d:=.tt) (v:=true) rfl
   rw [hst] at hrec
   refine ⟨(i:Int)+1,wrap64 (by omega) (by omega),?_⟩
   exact ⟨⟨rfl,okB_any rfl (htell2.okAll 4)⟩,⟨i+1,g+1,_,_,now1 - 1,_,_,hi',by rw [List.length_set];exact hop1,htell2,htr2,by simp;omega,by simp;omega,by simp;omega,hrec,rfl⟩,less⟩
  ·skip
   refine ⟨⟨by omega,by omega⟩,_,Nat.mul_one _,?_⟩
   refine ⟨_,hd,?_⟩
   refine ⟨fun q4=>?_,fun q4=>?_⟩
   ·have q4:now1 ≥ bw:=of_decide_eq_true q4
    rw [if_pos (by rw [decide_eq_true q4];rfl)] at hst
    rw [hst] at hrec
    refine ⟨(i:Int)+1,wrap64 (by omega) (by omega),?_⟩
    exact ⟨⟨rfl,okB_any rfl (htell.okAll 4)⟩,⟨i+1,g,out,op1,now1,R,cs,hi',hop1,htell,htr,hol,hn3,hn4,hrec,rfl⟩,less⟩
   ·have q4:¬ now1 ≥ bw:=of_decide_eq_false q4
    rw [if_neg (by rw [decide_eq_false q4];decide),if_neg (by decide)] at hst
    refine ⟨⟨by omega,by omega⟩,_,Nat.mul_one _,?_⟩
    refine ⟨_,hd,?_⟩
    refine ⟨trivial,iff' (by rw [beq_self];rfl) ⟨Nat.le_of_eq (Nat.zero_add _),?_,_,old_all rfl,_,rfl,trivial,?_⟩⟩
    ·rw [hRl];show (_+1)*16≤mostBytes;unfold mostBytes;omega
    refine ⟨⟨by omega,by omega⟩,_,Nat.mul_one _,?_⟩
    refine ⟨_,hd,?_⟩
    refine ⟨now1+1,wrap64 (by omega) (by omega),?_⟩
    refine ⟨⟨by omega,by omega⟩,_,Nat.mul_one _,?_⟩
    refine ⟨_,hd,?_⟩
    refine ⟨⟨by omega,by omega⟩,_,Nat.mul_one _,?_⟩
    refine ⟨by rw [hcl];show 0+_+1≤7;omega,_,hlk _,?_⟩
    have htell2:=htell.set k (d:=.tt) (b:=true) rfl
    have htr2:=htr.app (k:=(k:Int)) (d:=.ff) (v:=false) rfl
    rw [hst] at hrec
    refine ⟨(i:Int)+1,wrap64 (by omega) (by omega),?_⟩
    exact ⟨⟨rfl,okB_any rfl (htell2.okAll 4)⟩,⟨i+1,g+1,_,_,now1+1,_,_,hi',by rw [List.length_set];exact hop1,htell2,htr2,by simp;omega,by simp;omega,by simp;omega,hrec,rfl⟩,less⟩

end Go.Proofs.Vent
