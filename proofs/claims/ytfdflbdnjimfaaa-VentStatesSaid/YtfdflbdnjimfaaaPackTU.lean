/- VentStates: Check, Joined and After return what the document says. No condition. -/
import Derived.Test.YtfdflbdnjimfaaaPackTF
import Derived.Test.YtfdflbdnjimfaaaPackTJ

namespace Go.Proofs.Vent
open Go.V Go.Proofs

theorem ne_self (x:Int):(x != x)=false:=by simp
theorem eq_self' (x:Int):(x==x)=true:=by simp
theorem noNe {x:Int} (h:(x != x)=true):False:=by rw [ne_self] at h;cases h
theorem noEq {x:Int} (h:(x==x)=false):False:=by rw [eq_self'] at h;cases h
theorem joinedR_len {n:Nt} {bl:List Int}:(n.joinedR bl).1.length<9223372036854775808:=by
  unfold Nt.joinedR
  split
  · rename_i he
    have:=(Nt.lookE_ok he).1.t7
    simp only [rowsJ_len]
    omega
  · show 0<9223372036854775808
    decide
theorem tanks_len' (s:Nat):(tanks s).length<9223372036854775808:=by have:=tanksN_le s 7;unfold tanks;omega
theorem e22n:DN 22 [.agg [.list 0 [],.list 0 []],.agg [.list 0 [],.list 0 []]] (.bool true) :=
  have w:WkA (.agg [.list 0 [],.list 0 []]) (.agg [.list 1 (([]:List Int).map encI),.list 1 (([]:List Int).map encI)]):=WkA.agg (.cons (.of (.nil 0 1)) (.cons (.of (.nil 0 1)) .nil))
  (e22 [] [] (by decide) (by decide)).wkargs (.cons w (.cons w .nil))

set_option maxHeartbeats 8000000 in
theorem den3 (n:Nt) (bl:List Int) (st:List Vs) (hbl:bl.length<9223372036854775808) (hst:st.length<9223372036854775808):DN 3 [.agg n.enc,.list 1 (bl.map encI),.list 2 (st.map Vs.enc)] (.bool true):=by
  refine mk Try.func3 Try.call3 rfl rfl ?_
  refine ⟨_,rfl,_,den15 n,?_⟩
  refine ⟨_,rfl,_,den16 n,?_⟩
  refine ⟨fun h=>(noNe h).elim,fun _=>?_⟩
  refine ⟨fun h=>(noNe h).elim,fun _=>?_⟩
  refine ⟨fun h=>(noNe h).elim,fun _=>?_⟩
  refine ⟨_,rfl,_,den17 n bl hbl,?_⟩
  refine ⟨_,rfl,_,den18 n bl hbl,?_⟩
  refine ⟨_,rfl,_,e19 _ joinedR_len,?_⟩
  refine ⟨fun h=>absurd h (by decide),fun _=>?_⟩
  refine ⟨fun h=>(noNe h).elim,fun _=>?_⟩
  have h20:=den20 n bl st hbl
  have h21:=den21 n bl st hbl hst
  obtain ⟨⟨e,f,b⟩,hr⟩:∃ r,n.afterR bl st=r:=⟨_,rfl⟩
  rw [hr] at h20 h21
  by_cases he:e=0
  · have hd:afterD (e,f,b)=.tup [.agg [.list 1 ((tanks f).map encI),.list 1 ((tanks b).map encI)],.int .i64 0]:=by unfold afterD;rw [if_pos he]
    rw [hd] at h20 h21
    refine ⟨_,rfl,_,h20,?_⟩
    refine ⟨_,rfl,_,h21,?_⟩
    refine ⟨_,rfl,_,e22 _ _ (tanks_len' f) (tanks_len' b),?_⟩
    refine ⟨fun _=>?_,fun h=>absurd h (by decide)⟩
    refine ⟨fun _=>?_,fun h=>absurd h (by decide)⟩
    exact ⟨_,rfl,_,den23,rfl⟩
  · rw [afterD_bad he] at h20 h21
    refine ⟨_,rfl,_,h20,?_⟩
    refine ⟨_,rfl,_,h21,?_⟩
    refine ⟨_,rfl,_,e22n,?_⟩
    refine ⟨fun _=>?_,fun h=>absurd h (by decide)⟩
    refine ⟨fun _=>?_,fun h=>(noEq h).elim⟩
    exact ⟨_,rfl,_,den23,rfl⟩

end Go.Proofs.Vent
