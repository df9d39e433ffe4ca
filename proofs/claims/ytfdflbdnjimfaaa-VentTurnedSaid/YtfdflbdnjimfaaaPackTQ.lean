/- What Proves says: as many blanks are needed. No condition. -/
import Derived.Test.YtfdflbdnjimfaaaPackTE
import Derived.Test.YtfdflbdnjimfaaaPackTL

namespace Go.Proofs.Vent
open Go.V Go.Proofs

/-! How often pipes have been used. -/
theorem countU_cons (x:Int × Int) (r:List (Int × Int)) (v:Int):countU (x::r) v=if x.1=v then x.2 else countU r v:=by
 unfold countU
 by_cases h:x.1=v
 ·rw [if_pos h]
  have:ixU (x::r) v=some 0:=by unfold ixU;rw [if_pos h]
  rw [this]
  rfl
 ·rw [if_neg h]
  have : ixU (x :: r) v = (ixU r v).map (· + 1) := by conv => lhs; unfold ixU
                                                      rw [if_neg h]
  rw [this]
  cases ixU r v with
  | none=>rfl
  | some i=>rfl
theorem bumpU_cons (x:Int × Int) (r:List (Int × Int)) (v:Int):bumpU (x::r) v=if x.1=v then (x.1,x.2+1)::r else x::bumpU r v:=by
 unfold bumpU
 by_cases h:x.1=v
 ·rw [if_pos h]
  have:ixU (x::r) v=some 0:=by unfold ixU;rw [if_pos h]
  rw [this]
  rfl
 ·rw [if_neg h]
  have : ixU (x :: r) v = (ixU r v).map (· + 1) := by conv => lhs; unfold ixU
                                                      rw [if_neg h]
  rw [this]
  cases hr:ixU r v with
  | none=>rfl
  | some i =>
   obtain ⟨y,h1,_⟩:=ixU_lt hr
   simp only [Option.map_some,List.getElem?_cons_succ,h1,List.set_cons_succ]
theorem countU_bump:∀ (K:List (Int × Int)) (v u:Int),countU (bumpU K v) u=countU K u+if u=v then 1 else 0
 | [],v,u=>by
  have h1:bumpU [] v=[(v,1)]:=rfl
  rw [h1,countU_cons]
  have h2:countU [] u=0:=rfl
  rw [h2]
  by_cases h:u=v
  ·rw [if_pos h,if_pos h.symm];rfl
  ·rw [if_neg h,if_neg fun e=>h e.symm];rfl
 | x::r,v,u=>by
  rw [bumpU_cons]
  by_cases hx:x.1=v
  ·rw [if_pos hx,countU_cons,countU_cons]
   by_cases hu:x.1=u
   ·simp only [if_pos hu,if_pos (show u=v by rw [← hu,hx])]
   ·simp only [if_neg hu,if_neg (show ¬ u=v by rw [← hx];exact fun e=>hu e.symm),Int.add_zero]
  ·rw [if_neg hx,countU_cons,countU_cons,countU_bump r v u]
   by_cases hu:x.1=u
   ·rw [if_pos hu,if_pos hu,if_neg (show ¬ u=v by rw [← hu];exact hx),Int.add_zero]
   ·rw [if_neg hu,if_neg hu]
def NetL.useR (n:NetL):List Int→List (Int × Int)→Option (List (Int × Int))
 | [],K=>some K
 | v::r,K=>match decide (countU K v+1 > 1) && !(match n.pipes[v.toNat]? with | some p=>p.welded | none=>false) with
  | true=>none
  | false=>n.useR r (bumpU K v)
theorem NetL.useL_R (n:NetL) (way:List Int):∀ (c k:Nat) (K:List (Int × Int)),k+c=way.length→n.useL way c k K=n.useR (way.drop k) K
 | 0,k,K,hk=>by rw [List.drop_of_length_le (by omega)];rfl
 | c+1,k,K,hk=>by
  have hk':k<way.length:=by omega
  rw [List.drop_eq_getElem_cons hk']
  unfold NetL.useL NetL.useR
  rw [dAt_get hk',n.useL_R way c (k+1) _ (by omega)]
  rfl
def occ (v:Int):List Int→Int
 | []=>0
 | x::r=>(if x=v then 1 else 0)+occ v r
theorem occ_nonneg (v:Int):∀ l,0≤occ v l
 | []=>Int.le_refl _
 | x::r=>by have:=occ_nonneg v r;simp only [occ];split <;> omega
theorem NetL.useR_some {n:NetL}:∀ (l:List Int) (K K':List (Int × Int)),n.useR l K=some K'→(∀ i p,n.pipes[i]?=some p→p.welded=false→countU K (i:Nat)≤1)→(∀ v∈l,0≤v) →
    (∀ v,countU K' v=countU K v+occ v l)∧∀ i p,n.pipes[i]?=some p→p.welded=false→countU K' (i:Nat)≤1
  | [],K,K',h,hK,_=>by cases h;exact ⟨fun v=>by simp [occ],hK⟩
  | v::r,K,K',h,hK,hl=>by
   unfold NetL.useR at h
   split at h
   ·cases h
   ·rename_i hc
    have hv0:=hl v (by simp)
    have hK1:∀ i p,n.pipes[i]?=some p→p.welded=false→countU (bumpU K v) (i:Nat)≤1:=fun i p hp hw=>by
     rw [countU_bump]
     by_cases e:(i:Int)=v
     ·rw [if_pos e]
      have:v.toNat=i:=by omega
      rw [this,hp] at hc
      dsimp only at hc
      rw [hw,Bool.not_false,Bool.and_true] at hc
      have:=of_decide_eq_false hc
      rw [e];omega
     ·rw [if_neg e];have:=hK i p hp hw;omega
    obtain ⟨h1,h2⟩:=NetL.useR_some r _ K' h hK1 fun u hu=>hl u (by simp [hu])
    refine ⟨fun u=>?_,h2⟩
    rw [h1 u,countU_bump]
    simp only [occ]
    by_cases e:u=v
    ·rw [if_pos e,if_pos e.symm];omega
    ·rw [if_neg e,if_neg fun x=>e x.symm];omega
theorem NetL.useR_ok {n:NetL}:∀ (l:List Int) (K:List (Int × Int)),(∀ v∈l,0≤v)→(∀ v,0≤countU K v)→(∀ i p,n.pipes[i]?=some p→p.welded=false→countU K (i:Nat)+occ (i:Nat) l≤1) →
    (∀ v∈l,v.toNat<n.pipes.length)→∃ K',n.useR l K=some K'∧∀ v,countU K' v=countU K v+occ v l
  | [],K,_,_,_,_=>⟨K,rfl,fun v=>by simp [occ]⟩
  | v::r,K,hl,h0,hK,hlt=>by
   have hv0:=hl v (by simp)
   obtain ⟨p,hp⟩:∃ p,n.pipes[v.toNat]?=some p:=⟨_,List.getElem?_eq_getElem (hlt v (by simp))⟩
   have hvn:((v.toNat:Nat):Int)=v:=Int.toNat_of_nonneg hv0
   have hc:(decide (countU K v+1 > 1) && !p.welded)=false:=by
    cases hw:p.welded with
    | true=>simp
    | false =>
     have:=hK v.toNat p hp hw
     rw [hvn] at this
     have h1:=occ_nonneg v r
     simp only [occ,if_true] at this
     have h2:=h0 v
     rw [decide_eq_false (by omega)]
     rfl
   obtain ⟨K',h1,h2⟩:=NetL.useR_ok r (bumpU K v) (fun u hu=>hl u (by simp [hu])) (fun u=>by rw [countU_bump];have:=h0 u;split <;> omega) (fun i q hq hw=>by
    have:=hK i q hq hw
    rw [countU_bump]
    simp only [occ] at this
    by_cases e:(i:Int)=v
    ·rw [if_pos e];rw [if_pos e.symm] at this;omega
    ·rw [if_neg e];rw [if_neg fun x=>e x.symm] at this;omega) (fun u hu=>hlt u (by simp [hu]))
   refine ⟨K',?_,fun u=>?_⟩
   ·unfold NetL.useR
    rw [hp]
    dsimp only
    rw [hc]
    exact h1
   ·rw [h2 u,countU_bump]
    simp only [occ]
    by_cases e:u=v
    ·rw [if_pos e,if_pos e.symm];omega
    ·rw [if_neg e,if_neg fun x=>e x.symm];omega


def useS (n:NetL) (B:Nat→Bool) (K:List (Int × Int)):Int:=sumS n.pipes.length fun i=>if B i=true then countU K (i:Nat) else 0


theorem NetL.proves_ok {n:NetL} (hn:n.Ok):∀ (ways:List (List Int)) (K:List (Int × Int)),(∀ w∈ways,∃ k,n.kept.testBit k=true∧n.gas k w=true)→(∀ v,0≤countU K v) →
    (∀ i p,n.pipes[i]?=some p→p.welded=false→countU K (i:Nat)+occ (i:Nat) ways.flatten≤1)→n.provesL ways K=true
  | [],K,_,_,_=>rfl
  | w::r,K,hg,h0,hK=>by
   obtain ⟨k,hk,hgk⟩:=hg w (by simp)
   obtain ⟨_,hin⟩:=NetL.gas_len hn hgk
   have hany:((tanksU n.kept).any fun k=>n.gas k w)=true:=List.any_eq_true.2 ⟨k,mem_tanksU.2 ⟨bit_lt hn.k hk,hk⟩,hgk⟩
   have happ:∀ (v:Int) (a b:List Int),occ v (a++b)=occ v a+occ v b:=by
    intro v a b
    induction a with
    | nil=>simp [occ]
    | cons x a ih=>simp only [List.cons_append,occ,ih];omega
   have hK2:∀ i p,n.pipes[i]?=some p→p.welded=false→countU K (i:Nat)+(occ (i:Nat) w+occ (i:Nat) r.flatten)≤1:=fun i p hp hw=>by
    have:=hK i p hp hw
    rw [List.flatten_cons,happ] at this
    exact this
   obtain ⟨K',h1,h2⟩:=NetL.useR_ok (n:=n) w K (fun v hv=>(hin v hv).1) h0 (fun i p hp hw=>by
    have:=hK2 i p hp hw
    have:=occ_nonneg (i:Nat) r.flatten
    omega) (fun v hv=>by have:=hin v hv;omega)
   unfold NetL.provesL
   rw [hany]
   dsimp only
   rw [n.useL_R w w.length 0 K (by omega),List.drop_zero,h1]
   dsimp only
   refine NetL.proves_ok hn r K' (fun w' hw'=>hg w' (by simp [hw'])) (fun v=>?_) (fun i p hp hw=>?_)
   ·rw [h2 v];have:=h0 v;have:=occ_nonneg v w;omega
   ·rw [h2];have:=hK2 i p hp hw;omega

end Go.Proofs.Vent
