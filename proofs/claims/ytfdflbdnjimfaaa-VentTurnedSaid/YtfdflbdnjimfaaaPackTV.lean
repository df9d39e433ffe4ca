/- Blanks: what is behind them. No condition. -/
import Derived.Test.YtfdflbdnjimfaaaPackTK
import Derived.Test.YtfdflbdnjimfaaaPackTL

namespace Go.Proofs.Vent
open Go.V Go.Proofs

def castL (l:List Nat):List Int:=l.map fun i=>((i:Nat):Int)
theorem castL_len (l:List Nat):(castL l).length=l.length:=by simp [castL]
theorem castL_at {l:List Nat} {j:Nat} (h:j<l.length):dAt (castL l) j=((l[j]:Nat):Int):=by
 rw [dAt_get (by rw [castL_len];exact h)]
 simp [castL]
theorem hasI_cast {l:List Nat} {i:Nat}:hasI (castL l) (i:Int)=bset l i:=by
 apply Bool.eq_iff_iff.2
 rw [bset_iff]
 unfold hasI castL
 rw [List.any_eq_true]
 constructor
 ·rintro ⟨x,hx,he⟩
  obtain ⟨j,hj,rfl⟩:=List.mem_map.1 hx
  have h1:(i:Int)=(j:Int):=beq_iff_eq.1 he
  have h2:i=j:=by omega
  rw [h2];exact hj
 ·intro h
  exact ⟨(i:Int),List.mem_map.2 ⟨i,h,rfl⟩,beq_self_eq_true _⟩

theorem eachF_none {p:Int→Bool} {many:Int} {l:List Int} (h:∀ j,j<l.length→offB many (dAt l j)=false∧p (dAt l j)=false∧(0<j→dAt l (j - 1)<dAt l j)):∀ r k,k+r=l.length→eachF p many l r k=none
 | 0,_,_=>rfl
 | r+1,k,hk=>by
  obtain ⟨h1,h2,h3⟩:=h k (by omega)
  unfold eachF
  rw [if_neg (by rw [h1];decide),if_neg (fun c=>by have:=h3 c.1;omega),if_neg (by rw [h2];decide)]
  exact eachF_none h r (k+1) (by omega)
theorem blanks_ok {n:Nt} (hc:n.check.2.2=0) {l:List Nat} (ha:l.Pairwise (·<·)) (hl:∀ j∈l,j<n.pipes.length) (hw:∀ j∈l,n.weldB j=false):n.lookE (castL l) [] false=0:=by
 have hE:n.blanksE (castL l)=none:=by
  unfold Nt.blanksE
  refine eachF_none (fun j hj=>?_) _ 0 (by omega)
  rw [castL_len] at hj
  have hm:l[j]∈l:=List.getElem_mem hj
  rw [castL_at hj]
  refine ⟨?_,hw _ hm,fun h0=>?_⟩
  ·unfold offB
   have:=hl _ hm
   rw [decide_eq_false (by omega),decide_eq_false (by omega)]
   rfl
  ·rw [castL_at (by omega)]
   have:=List.pairwise_iff_getElem.1 ha (j - 1) j (by omega) hj (by omega)
   omega
 unfold Nt.lookE
 rw [if_neg (by simpa using hc),hE]

theorem sep_iff {n:Nt} (hn:n.Ok) {wt:List Int} (hin:inAll n.tanks.length wt) (l:List Nat):(n.look (castL l) wt).separate=true↔(n.look [] wt).Sep (bset l):=by
 have hok:=Nt.look_ok hn (castL l) hin
 have hok0:=Nt.look_ok hn [] hin
 rw [NetL.separate_iff hok]
 have hadj:∀ u v,(n.look (castL l) wt).adj u v↔((n.look [] wt).less (bset l)).adj u v:=by
  intro u v
  have hop:∀ i,(n.look (castL l) wt).opN i=((n.look [] wt).less (bset l)).opN i:=fun i=>by
   rw [look_op hn.p,(n.look [] wt).less_op hok0,look_op hn.p,hasI_cast]
   cases decide (i<n.pipes.length) <;> cases bset l i <;> rfl
  constructor
  ·rintro ⟨i,p,hp,ho,he⟩
   exact ⟨i,p,hp,by rw [← hop i];exact ho,he⟩
  ·rintro ⟨i,p,hp,ho,he⟩
   exact ⟨i,p,hp,by rw [hop i];exact ho,he⟩
 constructor
 ·intro h k t hk ht hc
  exact h k t hk ht (hc.map fun u v ha=>(hadj u v).2 ha)
 ·intro h k t hk ht hc
  exact h k t hk ht (hc.map fun u v ha=>(hadj u v).1 ha)

theorem look_open {n:Nt} (hn:n.Ok) (wt:List Int):∀ j,j<(n.look [] wt).pipes.length→(n.look [] wt).opN j=true:=fun j hj=>by
 rw [look_op hn.p]
 have:j<n.pipes.length:=by simpa [Nt.look] using hj
 rw [decide_eq_true this]
 rfl
theorem wantedE_keep {n:Nt} {wt:List Int} (h:n.wantedE wt=none):∀ v∈wt,n.keepB v=false:=by
 unfold Nt.wantedE at h
 split at h
 ·cases h
 ·intro v hv
  obtain ⟨j,hj,rfl⟩:=List.getElem_of_mem hv
  have:=(eachF_in _ _ _ _ _ h (by omega) j (Nat.zero_le _) hj).2.1
  rw [dAt_get hj] at this
  exact this
theorem look_free {n:Nt} {bl wt:List Int} (hw:n.wantedE wt=none):(n.look bl wt).Free:=by
 intro v hv
 have hin:=Nt.wantedE_in hw
 have h1:=(want_iff (bl:=bl) hin v).1 hv
 have h2:=wantedE_keep hw _ h1
 rw [kept_iff]
 unfold Nt.keepB at h2
 rw [Int.toNat_natCast] at h2
 unfold Nt.keptB
 rw [h2,Bool.and_false]

def flN (n:Nt) (B:Nat):List Nat:=(List.range n.pipes.length).filter (flB n B)
theorem look_plen (n:Nt) (bl wt:List Int):(n.look bl wt).pipes.length=n.pipes.length:=by simp [Nt.look]


end Go.Proofs.Vent
