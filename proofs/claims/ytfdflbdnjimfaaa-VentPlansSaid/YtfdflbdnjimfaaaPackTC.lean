/- Sets of tanks that grow by one at a time: plans may be such; What flows: one more unit at a time, as long as there is room; the cut behind it; find: one more flows from a tank, if there is a way; What can flow is the number of the fewest blanks; push: one more flows, if there is a way; The fewest blanks, the first of them: what cut does, and what the reference looks for; flow: what can flow, and how much; cut: the fewest blanks, one by one; Joined, After, Blanks; After; How many tanks a set has; steps the other way round; The states that steps lead to, in order, as plan keeps them; plan: the shortest steps; Plan, Fewest; Lists that are compared; the nets and the steps of the examples. No condition. -/
import GoSem.Core.Machine
import Derived.Test.YtfdflbdnjimfaaaPackTA
import Derived.Test.YtfdflbdnjimfaaaPackTB
import Derived.Test.YtfdflbdnjimfaaaPackUJ

namespace Go.Proofs.Vent

def cnt:Nat→(Nat→Bool)→Nat
 | 0,_=>0
 | n+1,X=>cnt n X+(X n).toNat

theorem cnt4:∀ (N:Nat) {p q r s:Nat→Bool},(∀ v,v<N→(p v).toNat+(q v).toNat≤(r v).toNat+(s v).toNat)→cnt N p+cnt N q≤cnt N r+cnt N s
 | 0,_,_,_,_,_=>Nat.le_refl _
 | N+1,p,q,r,s,h=>by
  have ih:=cnt4 N (p:=p) (q:=q) (r:=r) (s:=s) fun v hv=>h v (by omega)
  have:=h N (by omega)
  simp only [cnt]
  omega
theorem cnt_mono:∀ (N:Nat) {p q:Nat→Bool},(∀ v,v<N→p v=true→q v=true)→cnt N p≤cnt N q
 | 0,_,_,_=>Nat.le_refl _
 | N+1,p,q,h=>by
  have ih:=cnt_mono N (p:=p) (q:=q) fun v hv=>h v (by omega)
  have h1:=h N (by omega)
  simp only [cnt]
  cases hp:p N with
  | false=>simp;omega
  | true=>rw [h1 hp];omega
theorem cnt_le:∀ (N:Nat) (p:Nat→Bool),cnt N p≤N
 | 0,_=>Nat.le_refl _
 | N+1,p=>by
  have:=cnt_le N p
  have h2:(p N).toNat≤1:=by cases p N <;> decide
  simp only [cnt]
  omega
theorem cnt_zero:∀ {N:Nat} {p:Nat→Bool},cnt N p=0→∀ v,v<N→p v=false
 | 0,_,_,v,hv=>absurd hv (by omega)
 | N+1,p,h,v,hv=>by
  simp only [cnt] at h
  by_cases e:v=N
  ·subst e
   cases hp:p v with
   | false=>rfl
   | true=>rw [hp] at h;simp at h
  ·exact cnt_zero (N:=N) (by omega) v (by omega)
theorem cnt_none {N:Nat} {p:Nat→Bool} (h:∀ v,v<N→p v=false):cnt N p=0:=by
 have:=cnt_mono N (p:=p) (q:=fun _=>false) fun v hv hp=>by rw [h v hv] at hp;cases hp
 have h0:∀ n,cnt n (fun _=>false)=0:=by
  intro n
  induction n with
  | zero=>rfl
  | succ n ih=>simp only [cnt,ih];rfl
 rw [h0] at this
 omega
theorem cnt_lt:∀ (N:Nat) {p q:Nat→Bool},(∀ v,v<N→p v=true→q v=true)→(u:Nat)→u<N→q u=true→p u=false→cnt N p<cnt N q
 | 0,_,_,_,u,hu,_,_=>absurd hu (by omega)
 | N+1,p,q,h,u,hu,hq,hp=>by
  simp only [cnt]
  by_cases e:u=N
  ·subst e
   have:=cnt_mono u (p:=p) (q:=q) fun v hv=>h v (by omega)
   rw [hq,hp]
   simp
   omega
  ·have ih:=cnt_lt N (p:=p) (q:=q) (fun v hv=>h v (by omega)) u (by omega) hq hp
   have h1:=h N (by omega)
   cases hpN:p N with
   | false=>simp;omega
   | true=>rw [h1 hpN];omega
theorem cnt_one:∀ {N:Nat} {p:Nat→Bool},cnt N p=1→∃ v,v<N∧p v=true∧∀ u,u<N→p u=true→u=v
 | 0,_,h=>by cases h
 | N+1,p,h=>by
  simp only [cnt] at h
  cases hp:p N with
  | true =>
   rw [hp] at h
   have h0:cnt N p=0:=by simp at h;exact h
   refine ⟨N,by omega,hp,fun u hu hpu=>?_⟩
   by_cases e:u=N
   ·exact e
   ·rw [cnt_zero h0 u (by omega)] at hpu;cases hpu
  | false =>
   rw [hp] at h
   obtain ⟨v,h1,h2,h3⟩:=cnt_one (N:=N) (p:=p) (by simpa using h)
   refine ⟨v,by omega,h2,fun u hu hpu=>?_⟩
   by_cases e:u=N
   ·subst e;rw [hp] at hpu;cases hpu
   ·exact h3 u (by omega) hpu
theorem cnt_one_of {N:Nat} {p:Nat→Bool} {v:Nat} (h:∀ u,u<N→p u=true→u=v):cnt N p≤1:=by
 induction N with
 | zero=>exact Nat.zero_le _
 | succ N ih =>
  simp only [cnt]
  cases hp:p N with
  | false=>have:=ih fun u hu=>h u (by omega);simpa using this
  | true =>
   have h0:cnt N p=0:=cnt_none fun u hu=>by
    cases hpu:p u with
    | false=>rfl
    | true=>have h1:=h u (by omega) hpu;have h2:=h N (by omega) hp;omega
   rw [h0];decide

section
variable (N:Nat) (adj:Nat→Nat→Bool)

def bdy (X:Nat→Bool) (v:Nat):Bool:=X v && (List.range N).any fun u=>adj v u && !(X u)

theorem bdy_iff {X:Nat→Bool} {v:Nat}:bdy N adj X v=true↔X v=true∧∃ u,u<N∧adj v u=true∧X u=false:=by
 unfold bdy
 simp [List.any_eq_true]

theorem bdy_sub (A B:Nat→Bool):cnt N (bdy N adj fun v=>A v || B v)+cnt N (bdy N adj fun v=>A v && B v)≤cnt N (bdy N adj A)+cnt N (bdy N adj B):=by
 refine cnt4 N fun v _=>?_
 have h1:bdy N adj (fun v=>A v || B v) v=true→bdy N adj A v=true∨bdy N adj B v=true:=by
  rw [bdy_iff,bdy_iff,bdy_iff]
  rintro ⟨h1,u,hu,ha,hn⟩
  rw [Bool.or_eq_false_iff] at hn
  rw [Bool.or_eq_true] at h1
  rcases h1 with h1 | h1
  ·exact .inl ⟨h1,u,hu,ha,hn.1⟩
  ·exact .inr ⟨h1,u,hu,ha,hn.2⟩
 have h2:bdy N adj (fun v=>A v && B v) v=true→bdy N adj A v=true∨bdy N adj B v=true:=by
  rw [bdy_iff,bdy_iff,bdy_iff]
  rintro ⟨h1,u,hu,ha,hn⟩
  rw [Bool.and_eq_false_iff] at hn
  rw [Bool.and_eq_true] at h1
  rcases hn with hn | hn
  ·exact .inl ⟨h1.1,u,hu,ha,hn⟩
  ·exact .inr ⟨h1.2,u,hu,ha,hn⟩
 have h3:bdy N adj (fun v=>A v || B v) v=true→bdy N adj (fun v=>A v && B v) v=true→bdy N adj A v=true∧bdy N adj B v=true:=by
  rw [bdy_iff,bdy_iff,bdy_iff,bdy_iff]
  rintro ⟨_,u,hu,ha,hn⟩ ⟨h1,_⟩
  rw [Bool.or_eq_false_iff] at hn
  rw [Bool.and_eq_true] at h1
  exact ⟨⟨h1.1,u,hu,ha,hn.1⟩,h1.2,u,hu,ha,hn.2⟩
 cases c1:bdy N adj (fun v=>A v || B v) v <;> cases c2:bdy N adj (fun v=>A v && B v) v <;> cases c3:bdy N adj A v <;> cases c4:bdy N adj B v <;> simp_all

variable (good W:Nat→Bool) (k:Nat)

structure Cru (m:Nat) (Y:Nat→Nat→Bool):Prop where
 z:∀ v,v<N→Y 0 v=false
 w:∀ v,v<N→W v=true→Y m v=true
 fin:∀ v,v<N→bdy N adj (Y m) v=false
 ok:∀ j,j≤m→∀ v,v<N→Y j v=true→good v=true
 one:∀ j,j<m→cnt N (fun v=>Y (j+1) v && !(Y j v))≤1
 wid:∀ j,j≤m→cnt N (bdy N adj (Y j))≤k

def sumTo (f:Nat→Nat):Nat→Nat
 | 0=>f 0
 | m+1=>sumTo f m+f (m+1)
theorem sumTo_congr {f g:Nat→Nat}:∀ {m:Nat},(∀ j,j≤m→f j=g j)→sumTo f m=sumTo g m
 | 0,h=>h 0 (Nat.le_refl _)
 | m+1,h=>by simp only [sumTo];rw [sumTo_congr fun j hj=>h j (by omega),h (m+1) (Nat.le_refl _)]
theorem sumTo_drop {f:Nat→Nat} {j:Nat}:∀ {m:Nat},j≤m+1→sumTo (fun i=>if i<j then f i else f (i+1)) m+f j=sumTo f (m+1)
 | 0,h=>by
  simp only [sumTo]
  by_cases e:j=0
  ·subst e;simp;omega
  ·have:j=1:=by omega
   subst this;simp
 | m+1,h=>by
  by_cases e:j=m+2
  ·subst e
   rw [sumTo]
   rw [sumTo_congr (g:=f) fun i hi=>by rw [if_pos (by omega)]]
   simp only [sumTo]
   rw [if_pos (by omega)]
  ·have ih:=sumTo_drop (f:=f) (j:=j) (m:=m) (by omega)
   rw [sumTo,if_neg (by omega)]
   have:sumTo f (m+1+1)=sumTo f (m+1)+f (m+1+1):=rfl
   omega
theorem sumTo_upd {f:Nat→Nat} {j x:Nat}:∀ {m:Nat},j≤m→sumTo (fun i=>if i=j then x else f i) m+f j=sumTo f m+x
 | 0,h=>by
  obtain rfl:j=0:=by omega
  simp only [sumTo,if_true];omega
 | m+1,h=>by
  by_cases e:j=m+1
  ·subst e
   simp only [sumTo,if_true]
   rw [sumTo_congr (g:=f) fun i hi=>by rw [if_neg (by omega)]]
   omega
  ·have ih:=sumTo_upd (f:=f) (j:=j) (x:=x) (m:=m) (by omega)
   simp only [sumTo]
   rw [if_neg (by omega)]
   omega

def wtS (X:Nat→Bool):Nat:=(cnt N (bdy N adj X)+1)*(N+1)+cnt N X

theorem cru_drop {m:Nat} {Y:Nat→Nat→Bool} (h:Cru N adj good W k (m+1) Y) {j:Nat} (hj:j≤m) (h0:cnt N (fun v=>Y (j+1) v && !(Y j v))=0) :
    Cru N adj good W k m (fun i=>if i<j then Y i else Y (i+1)):=by
  have hsub:∀ v,v<N→Y (j+1) v=true→Y j v=true:=fun v hv hy=>by
   have:=cnt_zero h0 v hv
   simp only [hy,Bool.true_and,Bool.not_eq_false'] at this
   exact this
  constructor
  ·intro v hv
   by_cases e:0<j
   ·simp only [if_pos e];exact h.z v hv
   ·obtain rfl:j=0:=by omega
    simp only [Nat.lt_irrefl,if_false]
    cases hy:Y (0+1) v with
    | false=>rfl
    | true=>have:=hsub v hv hy;rw [h.z v hv] at this;cases this
  ·intro v hv hw
   simp only [if_neg (show ¬ m<j by omega)];exact h.w v hv hw
  ·intro v hv
   simp only [if_neg (show ¬ m<j by omega)];exact h.fin v hv
  ·intro i hi v hv hy
   by_cases e:i<j
   ·simp only [if_pos e] at hy;exact h.ok i (by omega) v hv hy
   ·simp only [if_neg e] at hy;exact h.ok (i+1) (by omega) v hv hy
  ·intro i hi
   by_cases e:i+1<j
   ·simp only [if_pos e,if_pos (show i<j by omega)];exact h.one i (by omega)
   ·by_cases e2:i<j
    ·simp only [if_neg e,if_pos e2]
     obtain rfl:j=i+1:=by omega
     refine Nat.le_trans (cnt_mono N fun v hv hy=>?_) (h.one i (by omega))
     rw [Bool.and_eq_true] at hy ⊢
     exact ⟨hsub v hv hy.1,hy.2⟩
    ·simp only [if_neg e,if_neg e2];exact h.one (i+1) (by omega)
  ·intro i hi
   by_cases e:i<j
   ·simp only [if_pos e];exact h.wid i (by omega)
   ·simp only [if_neg e];exact h.wid (i+1) (by omega)

theorem cru_upd {m:Nat} {Y:Nat→Nat→Bool} (h:Cru N adj good W k m Y) {j:Nat} (hj:0<j) (hjm:j<m) (X:Nat→Bool) (hok:∀ v,v<N→X v=true→good v=true)
    (h1:cnt N (fun v=>X v && !(Y (j - 1) v))≤1) (h2:cnt N (fun v=>Y (j+1) v && !(X v))≤1) (hw:cnt N (bdy N adj X)≤k):Cru N adj good W k m (fun i=>if i=j then X else Y i):=by
  constructor
  ·intro v hv;simp only [if_neg (show ¬ 0=j by omega)];exact h.z v hv
  ·intro v hv hw;simp only [if_neg (show ¬ m=j by omega)];exact h.w v hv hw
  ·intro v hv;simp only [if_neg (show ¬ m=j by omega)];exact h.fin v hv
  ·intro i hi v hv hy
   by_cases e:i=j
   ·simp only [if_pos e] at hy;exact hok v hv hy
   ·simp only [if_neg e] at hy;exact h.ok i hi v hv hy
  ·intro i hi
   by_cases e:i=j
   ·subst e
    simp only [if_true,if_neg (show ¬ i+1=i by omega)];exact h2
   ·by_cases e2:i+1=j
    ·subst e2
     simp only [if_true,if_neg e];exact h1
    ·simp only [if_neg e,if_neg e2];exact h.one i hi
  ·intro i hi
   by_cases e:i=j
   ·simp only [if_pos e];exact hw
   ·simp only [if_neg e];exact h.wid i hi

theorem cru_mono:∀ (M m:Nat) (Y:Nat→Nat→Bool),Cru N adj good W k m Y→sumTo (fun i=>wtS N adj (Y i)) m≤M →
    ∃ m' Y',Cru N adj good W k m' Y'∧∀ j,j<m'→(∀ v,v<N→Y' j v=true→Y' (j+1) v=true)∧cnt N (fun v=>Y' (j+1) v && !(Y' j v))=1
  | 0,m,Y,h,hM=>by
   have:1≤sumTo (fun i=>wtS N adj (Y i)) m:=by
    cases m with
    | zero=>simp only [sumTo,wtS];rw [Nat.add_mul];omega
    | succ m=>simp only [sumTo,wtS];rw [Nat.add_mul (cnt N (bdy N adj (Y (m+1)))) 1];omega
   omega
  | M+1,m,Y,h,hM=>by
   by_cases hA:∃ j,j<m∧cnt N (fun v=>Y (j+1) v && !(Y j v))=0
   ·obtain ⟨j,hj,h0⟩:=hA
    obtain ⟨m,rfl⟩:∃ q,m=q+1:=⟨m - 1,by omega⟩
    refine cru_mono M m _ (cru_drop N adj good W k h (by omega) h0) ?_
    have h1:=sumTo_drop (f:=fun i=>wtS N adj (Y i)) (j:=j) (m:=m) (by omega)
    have h2:sumTo (fun i=>wtS N adj (if i<j then Y i else Y (i+1))) m=sumTo (fun i=>if i<j then wtS N adj (Y i) else wtS N adj (Y (i+1))) m:=sumTo_congr fun i _=>by
     by_cases e:i<j
     ·simp only [if_pos e]
     ·simp only [if_neg e]
    have h3:1≤wtS N adj (Y j):=by unfold wtS;rw [Nat.add_mul];omega
    rw [h2]
    omega
   have upd:∀ (j:Nat) (X:Nat→Bool),0<j→j<m→(∀ v,v<N→X v=true→good v=true)→cnt N (fun v=>X v && !(Y (j - 1) v))≤1→cnt N (fun v=>Y (j+1) v && !(X v))≤1→cnt N (bdy N adj X)≤k→wtS N adj X<wtS N adj (Y j) →
       ∃ m' Y',Cru N adj good W k m' Y'∧∀ j,j<m'→(∀ v,v<N→Y' j v=true→Y' (j+1) v=true)∧cnt N (fun v=>Y' (j+1) v && !(Y' j v))=1:=by
     intro j X hj hjm hok h1 h2 hw hlt
     refine cru_mono M m _ (cru_upd N adj good W k h hj hjm X hok h1 h2 hw) ?_
     have h3:=sumTo_upd (f:=fun i=>wtS N adj (Y i)) (j:=j) (x:=wtS N adj X) (m:=m) (by omega)
     have h4:sumTo (fun i=>wtS N adj (if i=j then X else Y i)) m=sumTo (fun i=>if i=j then wtS N adj X else wtS N adj (Y i)) m:=sumTo_congr fun i _=>by
      by_cases e:i=j
      ·simp only [if_pos e]
      ·simp only [if_neg e]
     rw [h4]
     omega
   by_cases hB:∃ j,j<m∧cnt N (bdy N adj fun v=>Y j v || Y (j+1) v)<cnt N (bdy N adj (Y (j+1)))
   ·obtain ⟨j,hj,hlt⟩:=hB
    have hjm:j+1<m:=by
     by_cases e:j+1=m
     ·rw [e,cnt_none h.fin] at hlt;omega
     ·omega
    refine upd (j+1) (fun v=>Y j v || Y (j+1) v) (by omega) hjm (fun v hv hy=>?_) ?_ ?_ ?_ ?_
    ·rw [Bool.or_eq_true] at hy
     rcases hy with hy | hy
     ·exact h.ok _ (by omega) v hv hy
     ·exact h.ok _ (by omega) v hv hy
    ·refine Nat.le_trans (cnt_mono N fun v hv hy=>?_) (h.one j hj)
     simp only [Nat.add_sub_cancel] at hy
     cases c1:Y j v <;> cases c2:Y (j+1) v <;> simp_all
    ·refine Nat.le_trans (cnt_mono N fun v hv hy=>?_) (h.one (j+1) hjm)
     cases c1:Y j v <;> cases c2:Y (j+1) v <;> simp_all
    ·have:=h.wid (j+1) (by omega);omega
    ·unfold wtS
     have h5:=cnt_le N (fun v=>Y j v || Y (j+1) v)
     obtain ⟨a,ha⟩:∃ a,cnt N (bdy N adj fun v=>Y j v || Y (j+1) v)=a:=⟨_,rfl⟩
     obtain ⟨b,hb⟩:∃ b,cnt N (bdy N adj (Y (j+1)))=b:=⟨_,rfl⟩
     have hlt':a<b:=by rw [← ha,← hb];exact hlt
     rw [ha,hb]
     have h6:(a+1)*(N+1)+(N+1)≤(b+1)*(N+1):=by
      have:(a+1)*(N+1)+(N+1)=(a+1+1)*(N+1):=by rw [Nat.add_mul (a+1) 1,Nat.one_mul]
      rw [this]
      exact Nat.mul_le_mul_right _ (by omega)
     omega
   by_cases hC:∃ j v,j<m∧v<N∧Y j v=true∧Y (j+1) v=false
   ·obtain ⟨j,v,hj,hv,hy,hn⟩:=hC
    have hj0:0<j:=by
     by_cases e:j=0
     ·subst e;rw [h.z v hv] at hy;cases hy
     ·omega
    have hb:cnt N (bdy N adj (Y (j+1)))≤cnt N (bdy N adj fun v=>Y j v || Y (j+1) v):=by
     by_cases e:cnt N (bdy N adj (Y (j+1)))≤cnt N (bdy N adj fun v=>Y j v || Y (j+1) v)
     ·exact e
     ·exact absurd ⟨j,hj,by omega⟩ hB
    have hs:=bdy_sub N adj (Y j) (Y (j+1))
    have hle:cnt N (bdy N adj fun v=>Y j v && Y (j+1) v)≤cnt N (bdy N adj (Y j)):=by omega
    refine upd j (fun v=>Y j v && Y (j+1) v) hj0 hj (fun v hv hy=>?_) ?_ ?_ ?_ ?_
    ·rw [Bool.and_eq_true] at hy;exact h.ok _ (by omega) v hv hy.1
    ·refine Nat.le_trans (cnt_mono N fun v hv hy=>?_) (h.one (j - 1) (by omega))
     rw [show j - 1+1=j by omega]
     cases c1:Y j v <;> cases c2:Y (j+1) v <;> simp_all
    ·refine Nat.le_trans (cnt_mono N fun v hv hy=>?_) (h.one j hj)
     cases c1:Y j v <;> cases c2:Y (j+1) v <;> simp_all
    ·have:=h.wid j (by omega);omega
    ·unfold wtS
     have h5:cnt N (fun v=>Y j v && Y (j+1) v)<cnt N (Y j):=cnt_lt N (fun v _ hy=>by rw [Bool.and_eq_true] at hy;exact hy.1) v hv hy (by simp [hn])
     have h6:(cnt N (bdy N adj fun v=>Y j v && Y (j+1) v)+1)*(N+1)≤(cnt N (bdy N adj (Y j))+1)*(N+1):=Nat.mul_le_mul_right _ (by omega)
     omega
   ·refine ⟨m,Y,h,fun j hj=>⟨fun v hv hy=>?_,?_⟩⟩
    ·cases hn:Y (j+1) v with
     | true=>rfl
     | false=>exact absurd ⟨j,v,hj,hv,hy,hn⟩ hC
    ·have h1:=h.one j hj
     have h2:cnt N (fun v=>Y (j+1) v && !(Y j v))≠0:=fun e=>hA ⟨j,hj,e⟩
     omega

end
end Go.Proofs.Vent

namespace Go.Proofs.Vent
open Go.V Go.Proofs

def Pp.way (p:Pp) (fr:Nat):Option (Int × Nat):=if fr=p.fr then some (1,p.to) else if fr=p.to then some (-1,p.fr) else none

def NetL.findL (n:NetL) (rec:Nat→Nat→List Int→Bool × Nat × List Int) (fr:Nat):Nat→Nat→Nat→List Int→Bool × Nat × List Int
 | 0,_,s,w=>(false,s,w)
 | c+1,i,s,w=>match n.pipes[i]? with
  | none=>(false,s,w)
  | some p=>match p.way fr with
   | none=>n.findL rec fr c (i+1) s w
   | some (by_,to)=>match s.testBit to || !(n.room w i fr) with
    | true=>n.findL rec fr c (i+1) s w
    | false=>match rec to (s ||| 2^to) w with
     | (true,s',w')=>(true,s',w'.set i (nowAt w' i+by_))
     | (false,s',w')=>n.findL rec fr c (i+1) s' w'
def NetL.findF (n:NetL):Nat→Nat→Nat→List Int→Bool × Nat × List Int
 | 0,_,s,w=>(false,s,w)
 | r+1,fr,s,w=>match n.wanted.testBit fr with
  | true=>(true,s,w)
  | false=>n.findL (n.findF r) fr n.pipes.length 0 s w
def NetL.pushL (n:NetL):List Nat→Nat→List Int→Bool × Nat × List Int
 | [],s,w=>(false,s,w)
 | k::l,s,w=>match n.findF 8 k s w with
  | (true,s',w')=>(true,s',w')
  | (false,s',w')=>n.pushL l s' w'
def tanksU (s:Nat):List Nat:=(List.range 7).filter fun i=>s.testBit i
theorem tanks_eq (s:Nat):tanks s=(tanksU s).map fun i=>((i:Nat):Int):=rfl
def NetL.push (n:NetL) (w:List Int):Bool × Nat × List Int:=n.pushL (tanksU n.kept) n.kept w
def NetL.flowF (n:NetL):Nat→Nat→List Int→Option (List Int × Nat)
 | 0,_,_=>none
 | r+1,m,w=>match n.push w with
  | (true,_,w')=>if m+1 > n.pipes.length then none else n.flowF r (m+1) w'
  | (false,_,w')=>some (w',m)
def now0:List Int:=List.replicate 12 0
def NetL.flow (n:NetL):Option (List Int × Nat):=n.flowF 20 0 now0

def Pp.out (p:Pp) (x:Int) (v:Nat):Int:=(if p.fr=v then x else 0) - (if p.to=v then x else 0)
def NetL.netN (n:NetL) (w:List Int) (v:Nat):Nat→Int
 | 0=>0
 | k+1=>n.netN w v k+match n.pipes[k]? with
  | none=>0
  | some p=>p.out (nowAt w k) v
def NetL.net (n:NetL) (w:List Int) (v:Nat):Int:=n.netN w v n.pipes.length

theorem nowAt_set {w:List Int} {i j:Nat} {x:Int} (hi:i<w.length):nowAt (w.set i x) j=if j=i then x else nowAt w j:=by
 unfold nowAt
 rw [List.getD_eq_getElem?_getD,List.getD_eq_getElem?_getD,List.getElem?_set]
 by_cases e:i=j
 ·subst e;simp [hi]
 ·have:¬ j=i:=fun h=>e h.symm
  simp [e,this]
theorem NetL.netN_set (n:NetL) {w:List Int} {i:Nat} {x:Int} (hi:i<w.length) {p:Pp} (hp:n.pipes[i]?=some p) (v:Nat):∀ k,n.netN (w.set i x) v k=n.netN w v k+if i<k then p.out x v - p.out (nowAt w i) v else 0
 | 0=>by simp [NetL.netN]
 | k+1=>by
  have ih:=n.netN_set hi (x:=x) hp v k
  simp only [NetL.netN,ih]
  by_cases e:k=i
  ·subst e
   rw [hp,if_neg (by omega),if_pos (by omega)]
   simp only [nowAt_set hi,if_true]
   omega
  ·have e1:nowAt (w.set i x) k=nowAt w k:=by rw [nowAt_set hi,if_neg e]
   rw [e1]
   by_cases h2:i<k
   ·rw [if_pos h2,if_pos (by omega)];omega
   ·rw [if_neg h2,if_neg (by omega)];omega

def Pp.ends (p:Pp) (u v:Nat):Prop:=(p.fr=u∧p.to=v)∨(p.fr=v∧p.to=u)
theorem Pp.way_some {p:Pp} (hne:p.fr≠p.to) {fr to:Nat} {b:Int} (h:p.way fr=some (b,to)):p.ends fr to∧to≠fr∧(b=1∧p.fr=fr∧p.to=to∨b=-1∧p.to=fr∧p.fr=to):=by
 unfold Pp.way at h
 split at h
 ·rename_i e
  cases h
  exact ⟨.inl ⟨e.symm,rfl⟩,fun h=>hne (e ▸ h.symm),.inl ⟨rfl,e.symm,rfl⟩⟩
 ·split at h
  ·rename_i e
   cases h
   exact ⟨.inr ⟨rfl,e.symm⟩,fun h=>hne (h.trans e),.inr ⟨rfl,e.symm,rfl⟩⟩
  ·cases h
theorem Pp.way_of {p:Pp} {u v:Nat} (h:p.ends u v):∃ b to,p.way u=some (b,to)∧to=v:=by
 unfold Pp.way
 rcases h with ⟨h1,h2⟩ | ⟨h1,h2⟩
 ·exact ⟨1,p.to,if_pos h1.symm,h2⟩
 ·by_cases e:u=p.fr
  ·refine ⟨1,p.to,if_pos e,?_⟩
   omega
  ·exact ⟨-1,p.fr,by rw [if_neg e,if_pos h2.symm],h1⟩
theorem Pp.way_none {p:Pp} {u:Nat} (h:p.way u=none) (v:Nat):¬ p.ends u v:=by
 intro he
 obtain ⟨b,to,h2,_⟩:=Pp.way_of he
 rw [h] at h2;cases h2

structure NetL.Inv (n:NetL) (w:List Int) (B:Int):Prop where
 len:w.length=12
 shut:∀ i,n.opN i=false→nowAt w i=0
 unit:∀ i p,n.pipes[i]?=some p→p.welded=false→-1≤nowAt w i∧nowAt w i≤1
 kfr:∀ i p,n.pipes[i]?=some p→n.kept.testBit p.fr=true→0≤nowAt w i
 kto:∀ i p,n.pipes[i]?=some p→n.kept.testBit p.to=true→nowAt w i≤0
 wfr:∀ i p,n.pipes[i]?=some p→n.wanted.testBit p.fr=true→nowAt w i≤0
 wto:∀ i p,n.pipes[i]?=some p→n.wanted.testBit p.to=true→0≤nowAt w i
 bnd:∀ i,-B≤nowAt w i∧nowAt w i≤B

theorem NetL.Inv.vals {n:NetL} {w:List Int} {B:Int} (h:n.Inv w B):∀ v∈w,-B≤v∧v≤B:=by
 intro v hv
 obtain ⟨i,hi,rfl⟩:=List.getElem_of_mem hv
 have:=h.bnd i
 unfold nowAt at this
 rwa [List.getD_eq_getElem?_getD,List.getElem?_eq_getElem hi,Option.getD_some] at this

def b2i (b:Bool):Int:=if b=true then 1 else 0

structure NetL.Yes (n:NetL) (fr s:Nat) (w w':List Int) (B:Int):Prop where
 inv:n.Inv w' (B+1)
 net:∃ t,n.wanted.testBit t=true∧∀ v,n.net w' v=n.net w v+b2i (v=fr) - b2i (v=t)
 same:∀ i p,n.pipes[i]?=some p→s.testBit p.fr=true→s.testBit p.to=true→nowAt w' i=nowAt w i
 rest:∀ i,n.pipes[i]?=none→nowAt w' i=nowAt w i
 near:∀ i,nowAt w' i=nowAt w i∨nowAt w' i=nowAt w i+1∨nowAt w' i=nowAt w i - 1

structure NetL.No (n:NetL) (fr s s':Nat) (w w':List Int):Prop where
 same:w'=w
 sup:Sub s s'
 lt:s'<2^7
 out:∀ u,(u=fr∨(s'.testBit u=true∧s.testBit u=false))→n.wanted.testBit u=false∧∀ i p v,n.pipes[i]?=some p→p.ends u v→n.room w i u=true→s'.testBit v=true

theorem b2i_true {p:Bool} (h:p=true):b2i p=1:=by subst h;rfl
theorem b2i_false {p:Bool} (h:p=false):b2i p=0:=by subst h;rfl

def unseen (s:Nat):Nat:=cnt 7 fun v=>!(s.testBit v)
theorem unseen_lt {s to:Nat} (ht:to<7) (h:s.testBit to=false):unseen (s ||| 2^to)<unseen s:=by
 refine cnt_lt 7 (fun v _ hv=>?_) to ht (by simp [h]) (by simp)
 rw [or_bit] at hv
 cases hs:s.testBit v with
 | false=>rfl
 | true=>rw [hs] at hv;cases hv
theorem unseen_sub {s s':Nat} (h:Sub s s'):unseen s'≤unseen s:=by
 refine cnt_mono 7 fun v _ hv=>?_
 cases hs:s.testBit v with
 | false=>rfl
 | true=>rw [h v hs] at hv;cases hv

def NetL.FindOK (n:NetL) (f:Nat→Nat→List Int→Bool × Nat × List Int) (r:Nat):Prop :=
 ∀ (fr s:Nat) (w:List Int) (B:Int),s<2^7→s.testBit fr=true→Sub n.kept s→fr<7→n.Inv w B→unseen s<r →
  match f fr s w with
  | (true,_,w')=>n.Yes fr s w w' B
  | (false,s',w')=>n.No fr s s' w w'

theorem NetL.room_some {n:NetL} {w:List Int} {i fr:Nat} {p:Pp} (hp:n.pipes[i]?=some p) (h:n.room w i fr=true):n.opN i=true∧(p.welded=false→(if p.to=fr then -(nowAt w i) else nowAt w i)<1):=by
 unfold NetL.room at h
 rw [hp] at h
 simp only at h
 split at h
 ·cases h
 ·rename_i ho
  have ho:n.opN i=true:=by simpa using ho
  split at h
  ·rename_i hw
   exact ⟨ho,fun h2=>by rw [hw] at h2;cases h2⟩
  ·exact ⟨ho,fun _=>of_decide_eq_true h⟩
theorem NetL.room_none {n:NetL} {w:List Int} {i fr:Nat} {p:Pp} (hp:n.pipes[i]?=some p) (h:n.room w i fr=false):n.opN i=false∨(p.welded=false∧1≤(if p.to=fr then -(nowAt w i) else nowAt w i)):=by
 unfold NetL.room at h
 rw [hp] at h
 simp only at h
 split at h
 ·exact .inl (by assumption)
 ·split at h
  ·cases h
  ·rename_i hw
   refine .inr ⟨by simpa using hw,?_⟩
   have:=of_decide_eq_false h
   omega

theorem NetL.step_yes {n:NetL} (hn:n.Ok) {i fr to s:Nat} {by_:Int} {p:Pp} {w w1:List Int} {B:Int} (hp:n.pipes[i]?=some p) (hway:p.way fr=some (by_,to)) (hfr:s.testBit fr=true) (hto:s.testBit to=false) (hk:Sub n.kept s)
    (hroom:n.room w i fr=true) (hnw:n.wanted.testBit fr=false) (h0:n.Inv w B) (h:n.Yes to (s ||| 2^to) w w1 B):n.Yes fr s w (w1.set i (nowAt w1 i+by_)) B:=by
  have hpe:=hn.pe p (List.mem_of_getElem? hp)
  obtain ⟨hends,hne,hcase⟩:=Pp.way_some hpe.2.2 hway
  have hil:i<n.pipes.length:=(List.getElem?_eq_some_iff.1 hp).1
  have hi12:i<w1.length:=by rw [h.inv.len];have:=hn.p;omega
  have hkto:n.kept.testBit to=false:=by
   cases hc:n.kept.testBit to with
   | false=>rfl
   | true=>rw [hk to hc] at hto;cases hto
  have hs1:∀ v,s.testBit v=true→(s ||| 2^to).testBit v=true:=fun v hv=>by rw [or_bit,hv];rfl
  have hs2:(s ||| 2^to).testBit to=true:=by rw [or_bit,pow_bit];simp
  have hi1:nowAt w1 i=nowAt w i:=by
   refine h.same i p hp ?_ ?_
   ·rcases hends with ⟨rfl,rfl⟩ | ⟨rfl,rfl⟩
    ·exact hs1 _ hfr
    ·exact hs2
   ·rcases hends with ⟨rfl,rfl⟩ | ⟨rfl,rfl⟩
    ·exact hs2
    ·exact hs1 _ hfr
  obtain ⟨hopen,hunit⟩:=NetL.room_some hp hroom
  have hset:∀ j,nowAt (w1.set i (nowAt w1 i+by_)) j=if j=i then nowAt w i+by_ else nowAt w1 j:=fun j=>by rw [nowAt_set hi12,hi1]
  have hby:by_=1∨by_=-1:=by rcases hcase with ⟨h,_⟩ | ⟨h,_⟩ <;> simp [h]
  have hinv:=h.inv
  constructor
  ·constructor
   ·rw [List.length_set];exact hinv.len
   ·intro j hj
    rw [hset]
    by_cases e:j=i
    ·subst e;rw [hopen] at hj;cases hj
    ·rw [if_neg e];exact hinv.shut j hj
   ·intro j q hq hw
    rw [hset]
    by_cases e:j=i
    ·subst e
     rw [hp] at hq;cases hq
     rw [if_pos rfl]
     have h1:=hinv.unit j p hp hw
     rw [hi1] at h1
     have h2:=hunit hw
     rcases hcase with ⟨rfl,h3,h4⟩ | ⟨rfl,h3,h4⟩
     ·rw [if_neg (by omega)] at h2;omega
     ·rw [if_pos h3] at h2;omega
    ·rw [if_neg e];exact hinv.unit j q hq hw
   ·intro j q hq hkq
    rw [hset]
    by_cases e:j=i
    ·subst e
     rw [hp] at hq;cases hq
     rw [if_pos rfl]
     have h1:=hinv.kfr j p hp hkq
     rw [hi1] at h1
     rcases hcase with ⟨rfl,h3,h4⟩ | ⟨rfl,h3,h4⟩
     ·omega
     ·rw [h4,hkto] at hkq;cases hkq
    ·rw [if_neg e];exact hinv.kfr j q hq hkq
   ·intro j q hq hkq
    rw [hset]
    by_cases e:j=i
    ·subst e
     rw [hp] at hq;cases hq
     rw [if_pos rfl]
     have h1:=hinv.kto j p hp hkq
     rw [hi1] at h1
     rcases hcase with ⟨rfl,h3,h4⟩ | ⟨rfl,h3,h4⟩
     ·rw [h4,hkto] at hkq;cases hkq
     ·omega
    ·rw [if_neg e];exact hinv.kto j q hq hkq
   ·intro j q hq hkq
    rw [hset]
    by_cases e:j=i
    ·subst e
     rw [hp] at hq;cases hq
     rw [if_pos rfl]
     have h1:=hinv.wfr j p hp hkq
     rw [hi1] at h1
     rcases hcase with ⟨rfl,h3,h4⟩ | ⟨rfl,h3,h4⟩
     ·rw [h3,hnw] at hkq;cases hkq
     ·omega
    ·rw [if_neg e];exact hinv.wfr j q hq hkq
   ·intro j q hq hkq
    rw [hset]
    by_cases e:j=i
    ·subst e
     rw [hp] at hq;cases hq
     rw [if_pos rfl]
     have h1:=hinv.wto j p hp hkq
     rw [hi1] at h1
     rcases hcase with ⟨rfl,h3,h4⟩ | ⟨rfl,h3,h4⟩
     ·omega
     ·rw [h3,hnw] at hkq;cases hkq
    ·rw [if_neg e];exact hinv.wto j q hq hkq
   ·intro j
    rw [hset]
    by_cases e:j=i
    ·subst e
     rw [if_pos rfl]
     have h1:=h0.bnd j
     rcases hby with rfl | rfl <;> omega
    ·rw [if_neg e];exact hinv.bnd j
  ·obtain ⟨t,ht,hnet⟩:=h.net
   refine ⟨t,ht,fun v=>?_⟩
   have h1:=n.netN_set hi12 (x:=nowAt w1 i+by_) hp v n.pipes.length
   have h2:=hnet v
   unfold NetL.net at h2 ⊢
   rw [h1,if_pos hil,h2]
   have e1:b2i (decide (v=to))=if to=v then 1 else 0:=by
    unfold b2i
    by_cases e:v=to
    ·subst e;simp
    ·rw [if_neg (by simpa using e),if_neg (fun h=>e h.symm)]
   have e2:b2i (decide (v=fr))=if fr=v then 1 else 0:=by
    unfold b2i
    by_cases e:v=fr
    ·subst e;simp
    ·rw [if_neg (by simpa using e),if_neg (fun h=>e h.symm)]
   rw [e1,e2]
   unfold Pp.out
   rcases hcase with ⟨rfl,h3,h4⟩ | ⟨rfl,h3,h4⟩
   ·rw [h3,h4]
    split <;> split <;> omega
   ·rw [h3,h4]
    split <;> split <;> omega
  ·intro j q hq h1 h2
   rw [hset]
   by_cases e:j=i
   ·subst e
    rw [hp] at hq;cases hq
    rcases hends with ⟨rfl,rfl⟩ | ⟨rfl,rfl⟩
    ·rw [hto] at h2;cases h2
    ·rw [hto] at h1;cases h1
   ·rw [if_neg e];exact h.same j q hq (hs1 _ h1) (hs1 _ h2)
  ·intro j hj
   rw [hset]
   by_cases e:j=i
   ·subst e;rw [hp] at hj;cases hj
   ·rw [if_neg e];exact h.rest j hj
  ·intro j
   rw [hset]
   by_cases e:j=i
   ·subst e
    rw [if_pos rfl]
    rcases hby with rfl | rfl <;> omega
   ·rw [if_neg e];exact h.near j

theorem NetL.findL_ok {n:NetL} (hn:n.Ok) {rec:Nat→Nat→List Int→Bool × Nat × List Int} {r:Nat} (hrec:n.FindOK rec r) {fr s0:Nat} {w:List Int} {B:Int} (hs0:s0<2^7) (hfr:s0.testBit fr=true) (hk:Sub n.kept s0) (hfr7:fr<7) (hinv:n.Inv w B) (hun:unseen s0<r+1) (hnw:n.wanted.testBit fr=false) :
    ∀ (c i s:Nat),i+c=n.pipes.length→Sub s0 s→s<2^7 →
     (∀ u,s.testBit u=true→s0.testBit u=false→n.wanted.testBit u=false∧∀ i p v,n.pipes[i]?=some p→p.ends u v→n.room w i u=true→s.testBit v=true) →
     (∀ j p v,j<i→n.pipes[j]?=some p→p.ends fr v→n.room w j fr=true→s.testBit v=true) →
     match n.findL rec fr c i s w with
     | (true,_,w')=>n.Yes fr s0 w w' B
     | (false,s',w')=>n.No fr s0 s' w w'
  | 0,i,s,hi,hsub,hs,hA,hB=>by
   show n.No fr s0 s w w
   refine ⟨rfl,hsub,hs,fun u hu=>?_⟩
   rcases hu with rfl | ⟨h1,h2⟩
   ·refine ⟨hnw,fun j p v hp he hr=>hB j p v ?_ hp he hr⟩
    have:=(List.getElem?_eq_some_iff.1 hp).1
    omega
   ·exact hA u h1 h2
  | c+1,i,s,hi,hsub,hs,hA,hB=>by
   have hil:i<n.pipes.length:=by omega
   obtain ⟨p,hp⟩:∃ p,n.pipes[i]?=some p:=⟨_,List.getElem?_eq_getElem hil⟩
   have hpe:=hn.pe p (List.mem_of_getElem? hp)
   have h7:=hn.t7
   have next:(∀ v,p.ends fr v→n.room w i fr=true→s.testBit v=true)→∀ j q v,j<i+1→n.pipes[j]?=some q→q.ends fr v→n.room w j fr=true→s.testBit v=true:=by
    intro h j q v hj hq he hr
    by_cases e:j=i
    ·subst e
     rw [hp] at hq;cases hq
     exact h v he hr
    ·exact hB j q v (by omega) hq he hr
   unfold NetL.findL
   rw [hp]
   simp only
   cases hw:p.way fr with
   | none =>
    simp only
    exact NetL.findL_ok hn hrec hs0 hfr hk hfr7 hinv hun hnw c (i+1) s (by omega) hsub hs hA (next fun v he _=>absurd he (Pp.way_none hw v))
   | some q =>
    obtain ⟨by_,to⟩:=q
    simp only
    obtain ⟨hends,hne,hcase⟩:=Pp.way_some hpe.2.2 hw
    have hto7:to<7:=by rcases hends with ⟨h1,h2⟩ | ⟨h1,h2⟩ <;> omega
    have uniq:∀ v,p.ends fr v→v=to:=by
     intro v hv
     obtain ⟨b,to',h1,h2⟩:=Pp.way_of hv
     rw [hw] at h1;cases h1
     exact h2.symm
    cases hcond:(s.testBit to || !(n.room w i fr)) with
    | true =>
     simp only
     refine NetL.findL_ok hn hrec hs0 hfr hk hfr7 hinv hun hnw c (i+1) s (by omega) hsub hs hA (next fun v he hr=>?_)
     rw [uniq v he]
     rw [hr] at hcond
     simpa using hcond
    | false =>
     simp only
     rw [Bool.or_eq_false_iff] at hcond
     obtain ⟨hto,hroom⟩:=hcond
     have hroom:n.room w i fr=true:=by simpa using hroom
     have hs1:s ||| 2^to<2^7:=or_lt hs (pow7 hto7)
     have hsup:Sub s (s ||| 2^to):=fun v hv=>by rw [or_bit,hv];rfl
     have hst:(s ||| 2^to).testBit to=true:=by rw [or_bit,pow_bit];simp
     have hr:=hrec to (s ||| 2^to) w B hs1 hst ((hk.trans hsub).trans hsup) hto7 hinv (by
      have h1:=unseen_lt hto7 hto
      have h2:=unseen_sub hsub
      omega)
     obtain ⟨⟨b,s',w'⟩,hres⟩:∃ x,rec to (s ||| 2^to) w=x:=⟨_,rfl⟩
     rw [hres] at hr ⊢
     cases b with
     | true =>
      simp only at hr ⊢
      have hy:=NetL.step_yes hn hp hw (hsub _ hfr) hto (hk.trans hsub) hroom hnw hinv hr
      exact ⟨hy.inv,hy.net,fun j q hq h1 h2=>hy.same j q hq (hsub _ h1) (hsub _ h2),hy.rest,hy.near⟩
     | false =>
      simp only at hr ⊢
      obtain ⟨rfl,h1,h2,h3⟩:=hr
      refine NetL.findL_ok hn hrec hs0 hfr hk hfr7 hinv hun hnw c (i+1) s' (by omega) ((hsub.trans hsup).trans h1) h2 (fun u hu hu0=>?_) ?_
      ·by_cases hus:s.testBit u=true
       ·obtain ⟨h4,h5⟩:=hA u hus hu0
        exact ⟨h4,fun j q v hq he hr=>h1 v (hsup v (h5 j q v hq he hr))⟩
       ·have hus:s.testBit u=false:=by simpa using hus
        by_cases e:u=to
        ·exact h3 u (.inl e)
        ·refine h3 u (.inr ⟨hu,?_⟩)
         rw [or_bit,pow_bit,hus];simp [e]
      ·intro j q v hj hq he hr
       by_cases e:j=i
       ·subst e
        rw [hp] at hq;cases hq
        rw [uniq v he]
        exact h1 _ hst
       ·exact h1 v (hsup v (hB j q v (by omega) hq he hr))

theorem NetL.findF_ok {n:NetL} (hn:n.Ok):∀ r,n.FindOK (n.findF r) r
 | 0=>fun fr s w B _ _ _ _ _ h=>absurd h (by omega)
 | r+1=>fun fr s w B hs hfr hk hfr7 hinv hun=>by
  unfold NetL.findF
  cases hw:n.wanted.testBit fr with
  | true =>
   simp only
   refine ⟨⟨hinv.len,hinv.shut,hinv.unit,hinv.kfr,hinv.kto,hinv.wfr,hinv.wto,fun i=>by have:=hinv.bnd i;omega⟩,⟨fr,hw,fun v=>by omega⟩,fun _ _ _ _ _=>rfl,fun _ _=>rfl,fun _=>.inl rfl⟩
  | false =>
   simp only
   exact NetL.findL_ok hn (NetL.findF_ok hn r) hs hfr hk hfr7 hinv hun hw n.pipes.length 0 s (by omega) (.refl s) hs (fun u h1 h2=>by rw [h1] at h2;cases h2) (fun j p v hj=>by omega)

end Go.Proofs.Vent

namespace Go.Proofs.Vent
open Go.V Go.Proofs

abbrev webB (n:NetL) (w:List Int):Box:=.flat false (.ro n.enc::w.map fun v=>D.int .i64 v)
abbrev cloF:D:=.clo (.func 101) [] [.loc 1 0,.loc 2 0,.loc 3 0]
abbrev pushBs (n:NetL) (w:List Int) (s:Nat):List Box:=[webB n w,.flat false [.loc 0 0],.flat false [.int .u64 ((s:Nat):Int)],.flat false [cloF]]
def bD:Bool→D
 | true=>.tt
 | false=>.ff

theorem mapO_ints {bs:List Box} {m:Nat}:∀ (w:List Int),mapO (reify bs (m+1)) (w.map fun v=>D.int .i64 v)=some (w.map fun v=>D.int .i64 v)
 | []=>rfl
 | _v::w=>mapO_cons rfl (mapO_ints w)
theorem okAll_ints (nb:Nat):∀ (w:List Int),okAll nb (w.map fun v=>D.int .i64 v)=true
 | []=>rfl
 | _v::w=>okAll_ints nb w
theorem okA_web (nb:Nat) (n:NetL) (w:List Int):okAll nb (.ro n.enc::w.map fun v=>D.int .i64 v)=true:=okAll_ints nb w
theorem okB_push {n:NetL} {w:List Int} {s:Nat}:okBoxes 4 (pushBs n w s)=true:=okB_cons (okA_web 4 n w) rfl
theorem okB_web {n:NetL} {w:List Int}:okBoxes 1 [webB n w]=true:=okB_cons (okA_web 1 n w) rfl
theorem web_get {c:D} {w:List Int} {i:Nat} (hi:i<w.length):(c::w.map fun v=>D.int .i64 v)[1+i]?=some (D.int .i64 (nowAt w i)):=by
 rw [Nat.add_comm,List.getElem?_cons_succ,List.getElem?_map,List.getElem?_eq_getElem hi]
 unfold nowAt
 simp [List.getD_eq_getElem?_getD,List.getElem?_eq_getElem hi]
theorem web_set {c:D} {w:List Int} {i:Nat} {x:Int} (hi:i<w.length):splice (c::w.map fun v=>D.int .i64 v) (1+i) [D.int .i64 x]=c::(w.set i x).map fun v=>D.int .i64 v:=by
 unfold splice
 rw [show 1+i=i+1 by omega]
 simp only [List.take_succ_cons,List.cons_append,List.length_cons,List.length_nil]
 congr 1
 rw [show i+1+(0+1)=(i+(0+1))+1 by omega,List.drop_succ_cons,List.map_set,List.set_eq_take_append_cons_drop,if_pos (by simpa using hi)]
 rfl

theorem renL_ints (f:Nat→Nat):∀ w:List Int,renL f (w.map fun v=>D.int .i64 v)=w.map fun v=>D.int .i64 v
 | []=>rfl
 | v::w=>congrArg (D.int .i64 v::·) (renL_ints f w)
theorem ren_web (f:Nat→Nat) (n:NetL) (w:List Int):(webB n w).ren f=webB n w:=by
 show Box.flat false (.ro n.enc::renL f (w.map fun v=>D.int .i64 v))=_
 rw [renL_ints]
theorem get_bs {N:Nat} {n:NetL} {w:List Int} {s:Nat} {E:List Box}:(pushBs n w s).map (fun b=>some (b.ren (selF [0,1,2,3] N)))=getSel (pushBs n w s++E) [0,1,2,3]:=by
 show some ((webB n w).ren (selF [0,1,2,3] N))::_=_
 rw [ren_web]
 rfl
theorem put_bs {N:Nat} {n:NetL} {w w':List Int} {s s':Nat} {E:List Box}:putSel (pushBs n w s++E) [0,1,2,3] ((pushBs n w' s').map (Box.ren (selF [0,1,2,3] N)))=pushBs n w' s'++E:=by
 show putSel _ _ ((webB n w').ren (selF [0,1,2,3] N)::_)=_
 rw [ren_web]
 show pushBs n w' s'++(E++[])=_
 rw [List.append_nil]
theorem get_b1 {N:Nat} {n:NetL} {w:List Int}:[webB n w].map (fun b=>some (b.ren (selF [0] N)))=getSel [webB n w] [0]:=by
 show some ((webB n w).ren (selF [0] N))::_=_
 rw [ren_web]
 rfl
theorem put_b1 {n:NetL} {w w':List Int} {s':Nat}:putSel [webB n w] [0] ((pushBs n w' s').map (Box.ren (selF [0] 1)))=pushBs n w' s':=by
 show putSel _ _ ((webB n w').ren (selF [0] 1)::_)=_
 rw [ren_web]
 rfl

def findQ (n:NetL) (x:Bool × Nat × List Int) (d:D) (bs:List Box) (y:Yst):Prop:=d=bD x.1∧bs=pushBs n x.2.2 x.2.1∧y=.non
def findE (n:NetL) (x:Bool × Nat × List Int) (d:D) (bs:List Box) (y:Yst):Prop:=d=bD x.1∧(∃ E,bs=pushBs n x.2.2 x.2.1++E)∧y=.non
theorem findE_cut {n:NetL} {w:List Int} {s:Nat} {args:List D} {x:Bool × Nat × List Int} (h:DenY Try.prog 101 args (pushBs n w s) .non (findE n x)):DenY Try.prog 101 args (pushBs n w s) .non (findQ n x) :=
 h.cut fun d bs' y' hq=>by
  obtain ⟨rfl,⟨E,rfl⟩,rfl⟩:=hq
  refine ⟨by cases x.1 <;> rfl,?_,rfl,rfl,rfl⟩
  show okBoxes 4 (pushBs n x.2.2 x.2.1)=true
  exact okB_push

set_option maxHeartbeats 16000000 in
theorem denY101 (n:NetL) (h:n.Ok):∀ (r fr s:Nat) (w:List Int) (B:Int),s<2^7→s.testBit fr=true→Sub n.kept s→fr<7→n.Inv w B→B≤500→unseen s<r →
    DenY Try.prog 101 [.int .i64 fr,.loc 1 0,.loc 2 0,.loc 3 0] (pushBs n w s) .non (findQ n (n.findF r fr s w))
  | 0,fr,s,w,B,_,_,_,_,_,_,hu=>absurd hu (by omega)
  | r+1,fr,s,w,B,hs,hfr,hk,hfr7,hinv,hB,hu=>by
   have ih:=denY101 n h r
   have hok:=NetL.findF_ok h (n:=n)
   have hw7:=h.w
   have h7:=h.t7
   have h12:=h.p
   have hpl:((n.pipes.map Pp.enc).length:Int)=n.pipes.length:=by simp
   have hvals:∀ v∈w,-1000≤v∧v≤1000:=fun v hv=>by have:=hinv.vals v hv;omega
   refine findE_cut (mkY Try.func101 Try.call101 rfl rfl ?_)
   refine ⟨_,rfl,_,den64 n.wanted fr (by omega) (by omega),?_⟩
   have hF:n.findF (r+1) fr s w=match n.wanted.testBit fr with | true=>(true,s,w) | false=>n.findL (n.findF r) fr n.pipes.length 0 s w:=rfl
   refine ⟨fun h1=>?_,fun h1=>?_⟩
   ·have h1:n.wanted.testBit fr=true:=h1
    rw [h1] at hF
    rw [hF]
    exact ⟨_,rfl,rfl,⟨_,rfl⟩,rfl⟩
   have h1:n.wanted.testBit fr=false:=h1
   rw [h1] at hF
   have hF:n.findF (r+1) fr s w=n.findL (n.findF r) fr n.pipes.length 0 s w:=hF
   rw [hF]
   refine ⟨[0,1,2,3,26,27,28],4,[],fun σ=>∃ i s1:Nat,i≤n.pipes.length∧n.findL (n.findF r) fr n.pipes.length 0 s w=n.findL (n.findF r) fr (n.pipes.length - i) i s1 w∧s1<2^7∧Sub s s1 ∧
    σ=⟨[(0,.int .i64 fr),(1,.loc 1 0),(2,.loc 2 0),(3,.loc 3 0),(26,.list 3 (n.pipes.map Pp.enc)),(27,.int .i64 (n.pipes.map Pp.enc).length),(28,.int .i64 i)],pushBs n w s1,.non⟩,
    fun σ=>(1000 - slotI 28 σ).toNat,rfl,⟨rfl,okB_push⟩,⟨0,s,Nat.zero_le _,rfl,hs,.refl s,rfl⟩,?_⟩
   rintro σ ⟨i,s1,hi,hrec,hs1,hss,rfl⟩
   refine ⟨fun h2=>?_,fun h2=>?_⟩
   rotate_left
   ·have h2:=of_decide_eq_false h2
    rw [hpl] at h2
    have e:n.pipes.length - i=0:=by omega
    rw [e] at hrec
    rw [hrec]
    exact ⟨_,rfl,rfl,⟨_,rfl⟩,rfl⟩
   have h2:=of_decide_eq_true h2
   rw [hpl] at h2
   have hi':i<n.pipes.length:=by omega
   have less:(1000 - ((i:Int)+1)).toNat<(1000 - (i:Int)).toNat:=by omega
   obtain ⟨p,hgp⟩:∃ p,n.pipes[i]?=some p:=⟨_,List.getElem?_eq_getElem hi'⟩
   have hrow:(n.pipes.map Pp.enc)[((i:Int)).toNat]?=some (p.enc):=by rw [Int.toNat_natCast,List.getElem?_map,hgp];rfl
   have hpe:=h.pe p (List.mem_of_getElem? hgp)
   have hst:n.findL (n.findF r) fr (n.pipes.length - i) i s1 w=match p.way fr with
       | none=>n.findL (n.findF r) fr (n.pipes.length - (i+1)) (i+1) s1 w
       | some (by_,to)=>match s1.testBit to || !(n.room w i fr) with
        | true=>n.findL (n.findF r) fr (n.pipes.length - (i+1)) (i+1) s1 w
        | false=>match n.findF r to (s1 ||| 2^to) w with
         | (true,s',w')=>(true,s',w'.set i (nowAt w' i+by_))
         | (false,s',w')=>n.findL (n.findF r) fr (n.pipes.length - (i+1)) (i+1) s' w':=by
     rw [show n.pipes.length - i=(n.pipes.length - (i+1))+1 by omega]
     conv=>lhs;unfold NetL.findL
     rw [hgp]
     try rfl
   rw [hrec]
   refine ⟨by omega,_,hrow,?_⟩
   refine Or.inl ⟨by kernel_rfl,?_⟩
   refine ⟨fun h3=>?_,fun h3=>?_⟩
   ·have h3:((fr:Int)==p.fr)=true:=h3
    have h3:fr=p.fr:=by simp at h3;omega
    have hway:p.way fr=some (1,p.to):=by unfold Pp.way;rw [if_pos h3]
    obtain ⟨to,hto⟩:∃ to,p.to=to:=⟨_,rfl⟩
    rw [hto] at hway
    rw [hto]
    have hto7:to<7:=by omega
    rw [hway] at hst
    have hst:n.findL (n.findF r) fr (n.pipes.length - i) i s1 w=match s1.testBit to || !(n.room w i fr) with
        | true=>n.findL (n.findF r) fr (n.pipes.length - (i+1)) (i+1) s1 w
        | false=>match n.findF r to (s1 ||| 2^to) w with
         | (true,s',w')=>(true,s',w'.set i (nowAt w' i+1))
         | (false,s',w')=>n.findL (n.findF r) fr (n.pipes.length - (i+1)) (i+1) s' w':=hst
    refine ⟨_,rfl,_,den64 s1 to (by omega) (by omega),?_⟩
    refine ⟨fun h5=>?_,fun h5=>?_⟩
    ·have h5:s1.testBit to=true:=h5
     rw [h5] at hst
     refine ⟨(i:Int)+1,wrap64 (by omega) (by omega),?_⟩
     exact ⟨⟨rfl,okB_push⟩,⟨i+1,s1,hi',hst,hs1,hss,rfl⟩,less⟩
    have h5:s1.testBit to=false:=h5
    rw [h5] at hst
    refine ⟨_,mapO_cons (reify_loc rfl (mapO_cons rfl (mapO_ints w))) (mapO_cons rfl (mapO_cons rfl rfl)),_,den102 n h w hinv.len hvals i fr hi',?_⟩
    refine ⟨fun h6=>?_,fun h6=>?_⟩
    ·have h6:(!(n.room w i fr))=true:=h6
     have h6:n.room w i fr=false:=by simpa using h6
     rw [h6] at hst
     refine ⟨(i:Int)+1,wrap64 (by omega) (by omega),?_⟩
     exact ⟨⟨rfl,okB_push⟩,⟨i+1,s1,hi',hst,hs1,hss,rfl⟩,less⟩
    have h6:(!(n.room w i fr))=false:=h6
    have h6:n.room w i fr=true:=by simpa using h6
    rw [h6] at hst
    have hst : n.findL (n.findF r) fr (n.pipes.length - i) i s1 w = match n.findF r to (s1 ||| 2 ^ to) w with
          | (true,s',w')=>(true,s',w'.set i (nowAt w' i+1))
          | (false,s',w')=>n.findL (n.findF r) fr (n.pipes.length - (i+1)) (i+1) s' w':=hst
    have hs2:s1 ||| 2^to<2^7:=or_lt hs1 (pow7 hto7)
    have hsup:Sub s1 (s1 ||| 2^to):=fun v hv=>by rw [or_bit,hv];rfl
    have hstt:(s1 ||| 2^to).testBit to=true:=by rw [or_bit,pow_bit];simp
    have hun:unseen (s1 ||| 2^to)<r:=by
     have h8:=unseen_lt hto7 h5
     have h9:=unseen_sub hss
     omega
    have hcall:=ih to (s1 ||| 2^to) w B hs2 hstt ((hk.trans hss).trans hsup) hto7 hinv hB hun
    have hfok:=hok r to (s1 ||| 2^to) w B hs2 hstt ((hk.trans hss).trans hsup) hto7 hinv hun
    obtain ⟨⟨b,s',w'⟩,hres⟩:∃ x,n.findF r to (s1 ||| 2^to) w=x:=⟨_,rfl⟩
    rw [hres] at hcall hst hfok
    have hcall:DenY Try.prog 101 [.int .i64 to,.loc 1 0,.loc 2 0,.loc 3 0] (pushBs n w (s1 ||| 2^to)) .non (fun d bs y=>d=bD b∧bs=pushBs n w' s'∧y=.non):=hcall
    refine Or.inl ⟨by kernel_rfl,?_⟩
    refine ⟨_,rfl,_,den57 to (by omega),?_⟩
    refine ⟨_,bits_or (by omega) (pow_lt62 (by omega)),?_⟩
    cases b with
    | true =>
     simp only at hfok
     refine Or.inr ⟨[0,1,2,3],[.int .i64 to,.loc 1 0,.loc 2 0,.loc 3 0],pushBs n w (s1 ||| 2^to),_,rfl,rfl,rfl,get_bs,hcall,⟨_,_,_,rfl,rfl,rfl⟩,?_⟩
     rintro _ _ _ ⟨rfl,rfl,rfl⟩
     refine ⟨_,put_bs,?_⟩
     have hlen:=hfok.inv.len
     have hbnd:=hfok.inv.bnd i
     refine Or.inl ⟨by kernel_rfl,?_⟩
     refine ⟨⟨by omega,by omega⟩,i,Nat.mul_one i,?_⟩
     refine ⟨_,web_get (by omega),?_⟩
     refine ⟨_,wrap64 (by omega) (by omega),?_⟩
     refine ⟨⟨by omega,by omega⟩,i,Nat.mul_one i,?_⟩
     refine ⟨by simp only [List.length_cons,List.length_map,List.length_nil];omega,_,web_set (by omega),?_⟩
     have hst:n.findL (n.findF r) fr (n.pipes.length - i) i s1 w=(true,s',w'.set i (nowAt w' i+1)):=hst
     rw [hst]
     exact ⟨_,rfl,rfl,⟨_,rfl⟩,rfl⟩
    | false =>
     simp only at hfok
     obtain ⟨hw',hsub',hs',_⟩:=hfok
     subst hw'
     refine Or.inr ⟨[0,1,2,3],[.int .i64 to,.loc 1 0,.loc 2 0,.loc 3 0],pushBs n w' (s1 ||| 2^to),_,rfl,rfl,rfl,get_bs,hcall,⟨_,_,_,rfl,rfl,rfl⟩,?_⟩
     rintro _ _ _ ⟨rfl,rfl,rfl⟩
     refine ⟨_,put_bs,?_⟩
     refine ⟨(i:Int)+1,wrap64 (by omega) (by omega),?_⟩
     exact ⟨⟨rfl,okB_push⟩,⟨i+1,s',hi',hst,hs',(hss.trans hsup).trans hsub',rfl⟩,less⟩
   have h3:((fr:Int)==p.fr)=false:=h3
   have h3:¬ fr=p.fr:=by simp at h3;omega
   refine ⟨fun h4=>?_,fun h4=>?_⟩
   ·have h4:((fr:Int)==p.to)=true:=h4
    have h4:fr=p.to:=by simp at h4;omega
    have hway:p.way fr=some (-1,p.fr):=by unfold Pp.way;rw [if_neg h3,if_pos h4]
    refine Or.inl ⟨by kernel_rfl,?_⟩
    obtain ⟨to,hto⟩:∃ to,p.fr=to:=⟨_,rfl⟩
    rw [hto] at hway
    rw [hto]
    have hto7:to<7:=by omega
    rw [hway] at hst
    have hst:n.findL (n.findF r) fr (n.pipes.length - i) i s1 w=match s1.testBit to || !(n.room w i fr) with
        | true=>n.findL (n.findF r) fr (n.pipes.length - (i+1)) (i+1) s1 w
        | false=>match n.findF r to (s1 ||| 2^to) w with
         | (true,s',w')=>(true,s',w'.set i (nowAt w' i+-1))
         | (false,s',w')=>n.findL (n.findF r) fr (n.pipes.length - (i+1)) (i+1) s' w':=hst
    refine ⟨_,rfl,_,den64 s1 to (by omega) (by omega),?_⟩
    refine ⟨fun h5=>?_,fun h5=>?_⟩
    ·have h5:s1.testBit to=true:=h5
     rw [h5] at hst
     refine ⟨(i:Int)+1,wrap64 (by omega) (by omega),?_⟩
     exact ⟨⟨rfl,okB_push⟩,⟨i+1,s1,hi',hst,hs1,hss,rfl⟩,less⟩
    have h5:s1.testBit to=false:=h5
    rw [h5] at hst
    refine ⟨_,mapO_cons (reify_loc rfl (mapO_cons rfl (mapO_ints w))) (mapO_cons rfl (mapO_cons rfl rfl)),_,den102 n h w hinv.len hvals i fr hi',?_⟩
    refine ⟨fun h6=>?_,fun h6=>?_⟩
    ·have h6:(!(n.room w i fr))=true:=h6
     have h6:n.room w i fr=false:=by simpa using h6
     rw [h6] at hst
     refine ⟨(i:Int)+1,wrap64 (by omega) (by omega),?_⟩
     exact ⟨⟨rfl,okB_push⟩,⟨i+1,s1,hi',hst,hs1,hss,rfl⟩,less⟩
    have h6:(!(n.room w i fr))=false:=h6
    have h6:n.room w i fr=true:=by simpa using h6
    rw [h6] at hst
    have hst : n.findL (n.findF r) fr (n.pipes.length - i) i s1 w = match n.findF r to (s1 ||| 2 ^ to) w with
          | (true,s',w')=>(true,s',w'.set i (nowAt w' i+-1))
          | (false,s',w')=>n.findL (n.findF r) fr (n.pipes.length - (i+1)) (i+1) s' w':=hst
    have hs2:s1 ||| 2^to<2^7:=or_lt hs1 (pow7 hto7)
    have hsup:Sub s1 (s1 ||| 2^to):=fun v hv=>by rw [or_bit,hv];rfl
    have hstt:(s1 ||| 2^to).testBit to=true:=by rw [or_bit,pow_bit];simp
    have hun:unseen (s1 ||| 2^to)<r:=by
     have h8:=unseen_lt hto7 h5
     have h9:=unseen_sub hss
     omega
    have hcall:=ih to (s1 ||| 2^to) w B hs2 hstt ((hk.trans hss).trans hsup) hto7 hinv hB hun
    have hfok:=hok r to (s1 ||| 2^to) w B hs2 hstt ((hk.trans hss).trans hsup) hto7 hinv hun
    obtain ⟨⟨b,s',w'⟩,hres⟩:∃ x,n.findF r to (s1 ||| 2^to) w=x:=⟨_,rfl⟩
    rw [hres] at hcall hst hfok
    have hcall:DenY Try.prog 101 [.int .i64 to,.loc 1 0,.loc 2 0,.loc 3 0] (pushBs n w (s1 ||| 2^to)) .non (fun d bs y=>d=bD b∧bs=pushBs n w' s'∧y=.non):=hcall
    refine Or.inl ⟨by kernel_rfl,?_⟩
    refine ⟨_,rfl,_,den57 to (by omega),?_⟩
    refine ⟨_,bits_or (by omega) (pow_lt62 (by omega)),?_⟩
    cases b with
    | true =>
     simp only at hfok
     refine Or.inr ⟨[0,1,2,3],[.int .i64 to,.loc 1 0,.loc 2 0,.loc 3 0],pushBs n w (s1 ||| 2^to),_,rfl,rfl,rfl,get_bs,hcall,⟨_,_,_,rfl,rfl,rfl⟩,?_⟩
     rintro _ _ _ ⟨rfl,rfl,rfl⟩
     refine ⟨_,put_bs,?_⟩
     have hlen:=hfok.inv.len
     have hbnd:=hfok.inv.bnd i
     refine Or.inl ⟨by kernel_rfl,?_⟩
     refine ⟨⟨by omega,by omega⟩,i,Nat.mul_one i,?_⟩
     refine ⟨_,web_get (by omega),?_⟩
     refine ⟨_,wrap64 (by omega) (by omega),?_⟩
     refine ⟨⟨by omega,by omega⟩,i,Nat.mul_one i,?_⟩
     refine ⟨by simp only [List.length_cons,List.length_map,List.length_nil];omega,_,web_set (by omega),?_⟩
     have hst:n.findL (n.findF r) fr (n.pipes.length - i) i s1 w=(true,s',w'.set i (nowAt w' i+-1)):=hst
     rw [hst]
     exact ⟨_,rfl,rfl,⟨_,rfl⟩,rfl⟩
    | false =>
     simp only at hfok
     obtain ⟨hw',hsub',hs',_⟩:=hfok
     subst hw'
     refine Or.inr ⟨[0,1,2,3],[.int .i64 to,.loc 1 0,.loc 2 0,.loc 3 0],pushBs n w' (s1 ||| 2^to),_,rfl,rfl,rfl,get_bs,hcall,⟨_,_,_,rfl,rfl,rfl⟩,?_⟩
     rintro _ _ _ ⟨rfl,rfl,rfl⟩
     refine ⟨_,put_bs,?_⟩
     refine ⟨(i:Int)+1,wrap64 (by omega) (by omega),?_⟩
     exact ⟨⟨rfl,okB_push⟩,⟨i+1,s',hi',hst,hs',(hss.trans hsup).trans hsub',rfl⟩,less⟩
   ·have h4:((fr:Int)==p.to)=false:=h4
    have h4:¬ fr=p.to:=by simp at h4;omega
    have hway:p.way fr=none:=by unfold Pp.way;rw [if_neg h3,if_neg h4]
    rw [hway] at hst
    refine ⟨(i:Int)+1,wrap64 (by omega) (by omega),?_⟩
    exact ⟨⟨rfl,okB_push⟩,⟨i+1,s1,hi',hst,hs1,hss,rfl⟩,less⟩

end Go.Proofs.Vent

namespace Go.Proofs.Vent
open Go.V Go.Proofs

structure NetL.Full (n:NetL) (now:List Int) (X:Nat):Prop where
 lt:X<2^7
 k:Sub n.kept X
 w:∀ v,X.testBit v=true→n.wanted.testBit v=false
 out:∀ u i p v,X.testBit u=true→n.pipes[i]?=some p→p.ends u v→n.room now i u=true→X.testBit v=true

theorem NetL.pushL_ok {n:NetL} (hn:n.Ok) {w:List Int} {B:Int} (hinv:n.Inv w B):∀ (l:List Nat) (s:Nat),(∀ k∈l,n.kept.testBit k=true)→Sub n.kept s→s<2^7 →
    (∀ u,s.testBit u=true→u ∉ l→n.wanted.testBit u=false∧∀ i p v,n.pipes[i]?=some p→p.ends u v→n.room w i u=true→s.testBit v=true) →
    match n.pushL l s w with
    | (true,_,w')=>n.Inv w' (B+1)∧∃ k t,n.kept.testBit k=true∧n.wanted.testBit t=true∧∀ v,n.net w' v=n.net w v+b2i (v=k) - b2i (v=t)
    | (false,s',w')=>w'=w∧n.Full w s'
  | [],s,_,hk,hs,hA=>⟨rfl,hs,hk,fun v hv=>(hA v hv (by simp)).1,fun u i p v hu=>(hA u hu (by simp)).2 i p v⟩
  | k::l,s,hl,hk,hs,hA=>by
   have hkk:=hl k (by simp)
   have hk7:k<7:=bit_lt hn.k hkk
   have hu:unseen s<8:=Nat.lt_of_le_of_lt (cnt_le 7 _) (by decide)
   have hf:=NetL.findF_ok hn 8 k s w B hs (hk k hkk) hk hk7 hinv hu
   unfold NetL.pushL
   obtain ⟨⟨b,s',w'⟩,hres⟩:∃ x,n.findF 8 k s w=x:=⟨_,rfl⟩
   rw [hres] at hf ⊢
   cases b with
   | true =>
    simp only at hf ⊢
    obtain ⟨t,ht,hnet⟩:=hf.net
    exact ⟨hf.inv,k,t,hkk,ht,hnet⟩
   | false =>
    simp only at hf ⊢
    obtain ⟨rfl,h1,h2,h3⟩:=hf
    refine NetL.pushL_ok hn hinv l s' (fun k' hk'=>hl k' (by simp [hk'])) (hk.trans h1) h2 fun u hu' hnl=>?_
    by_cases e:u=k
    ·exact h3 u (.inl e)
    ·by_cases hus:s.testBit u=true
     ·obtain ⟨h4,h5⟩:=hA u hus (by simp [e,hnl])
      exact ⟨h4,fun i p v hp he hr=>h1 v (h5 i p v hp he hr)⟩
     ·exact h3 u (.inr ⟨hu',by simpa using hus⟩)

theorem mem_tanksU {s v:Nat}:v∈tanksU s↔v<7∧s.testBit v=true:=by unfold tanksU;simp

theorem NetL.push_ok {n:NetL} (hn:n.Ok) {w:List Int} {B:Int} (hinv:n.Inv w B) :
    match n.push w with
    | (true,_,w')=>n.Inv w' (B+1)∧∃ k t,n.kept.testBit k=true∧n.wanted.testBit t=true∧∀ v,n.net w' v=n.net w v+b2i (v=k) - b2i (v=t)
    | (false,s',w')=>w'=w∧n.Full w s' :=
  NetL.pushL_ok hn hinv (tanksU n.kept) n.kept (fun _k hk=>(mem_tanksU.1 hk).2) (.refl _) hn.k fun _u hu hnl=>absurd (mem_tanksU.2 ⟨bit_lt hn.k hu,hu⟩) hnl

/-! Sums over sets. -/

def sumS:Nat→(Nat→Int)→Int
 | 0,_=>0
 | k+1,f=>sumS k f+f k
theorem sumS_congr {f g:Nat→Int}:∀ {k:Nat},(∀ i,i<k→f i=g i)→sumS k f=sumS k g
 | 0,_=>rfl
 | k+1,h=>by simp only [sumS];rw [sumS_congr fun i hi=>h i (by omega),h k (by omega)]
theorem sumS_add {f g:Nat→Int}:∀ k,sumS k (fun i=>f i+g i)=sumS k f+sumS k g
 | 0=>rfl
 | k+1=>by simp only [sumS];rw [sumS_add k];omega
theorem sumS_zero:∀ k,sumS k (fun _=>0)=0
 | 0=>rfl
 | k+1=>by simp only [sumS];rw [sumS_zero k];rfl
theorem sumS_one {x:Int} {a:Nat}:∀ k,sumS k (fun v=>if a=v then x else 0)=if a<k then x else 0
 | 0=>by simp [sumS]
 | k+1=>by
  simp only [sumS]
  rw [sumS_one k]
  by_cases e:a=k
  ·subst e;simp
  ·by_cases h:a<k
   ·rw [if_pos h,if_neg e,if_pos (by omega)];omega
   ·rw [if_neg h,if_neg e,if_neg (by omega)];omega
theorem sumS_le {f g:Nat→Int}:∀ {k:Nat},(∀ i,i<k→f i≤g i)→sumS k f≤sumS k g
 | 0,_=>Int.le_refl _
 | k+1,h=>by simp only [sumS];have:=sumS_le (f:=f) (g:=g) (k:=k) fun i hi=>h i (by omega);have:=h k (by omega);omega

def NetL.outOf (n:NetL) (w:List Int) (X:Nat):Int:=sumS 7 fun v=>if X.testBit v=true then n.net w v else 0
def NetL.cross (n:NetL) (w:List Int) (X i:Nat):Int:=match n.pipes[i]? with
 | none=>0
 | some p=>(if X.testBit p.fr=true then nowAt w i else 0) - (if X.testBit p.to=true then nowAt w i else 0)
theorem sumS_sub {f g:Nat→Int}:∀ k,sumS k (fun i=>f i - g i)=sumS k f - sumS k g
 | 0=>rfl
 | k+1=>by simp only [sumS];rw [sumS_sub k];omega
theorem NetL.outN {n:NetL} (hn:n.Ok) (w:List Int) (X:Nat):∀ k,(sumS 7 fun v=>if X.testBit v=true then n.netN w v k else 0)=sumS k (n.cross w X)
 | 0=>by
  rw [sumS_congr (g:=fun _=>0) fun v _=>by simp [NetL.netN],sumS_zero];rfl
 | k+1=>by
  have ih:=NetL.outN hn w X k
  show _=sumS k (n.cross w X)+n.cross w X k
  rw [← ih]
  have h7:=hn.t7
  cases hp:n.pipes[k]? with
  | none =>
   have e:n.cross w X k=0:=by unfold NetL.cross;rw [hp]
   rw [e,Int.add_zero]
   refine sumS_congr fun v _=>?_
   simp only [NetL.netN,hp,Int.add_zero]
  | some p =>
   have hpe:=hn.pe p (List.mem_of_getElem? hp)
   have e:n.cross w X k=(if X.testBit p.fr=true then nowAt w k else 0) - (if X.testBit p.to=true then nowAt w k else 0):=by unfold NetL.cross;rw [hp]
   have h1:=sumS_one (x:=if X.testBit p.fr=true then nowAt w k else 0) (a:=p.fr) 7
   have h2:=sumS_one (x:=if X.testBit p.to=true then nowAt w k else 0) (a:=p.to) 7
   rw [if_pos (show p.fr<7 by omega)] at h1
   rw [if_pos (show p.to<7 by omega)] at h2
   rw [e,← h1,← h2,← sumS_sub,← sumS_add]
   refine sumS_congr fun v _=>?_
   simp only [NetL.netN,hp,Pp.out]
   by_cases a1:p.fr=v
   ·subst a1
    by_cases a2:p.to=p.fr
    ·omega
    ·simp only [if_true,if_neg a2]
     split <;> simp
   ·by_cases a2:p.to=v
    ·subst a2
     simp only [if_true,if_neg a1]
     rcases Bool.eq_false_or_eq_true (X.testBit p.to) with hx | hx <;> simp only [hx,if_true,Bool.false_eq_true,if_false] <;> omega
    ·simp only [if_neg a1,if_neg a2]
     rcases Bool.eq_false_or_eq_true (X.testBit v) with hx | hx <;> simp only [hx,if_true,Bool.false_eq_true,if_false] <;> omega
theorem NetL.out_cross {n:NetL} (hn:n.Ok) (w:List Int) (X:Nat):n.outOf w X=sumS n.pipes.length (n.cross w X):=NetL.outN hn w X n.pipes.length

structure NetL.Flow (n:NetL) (w:List Int) (m:Nat) (B:Int):Prop where
 inv:n.Inv w B
 bal:∀ v,n.kept.testBit v=false→n.wanted.testBit v=false→n.net w v=0
 val:n.outOf w n.kept=m

theorem now0_at (i:Nat):nowAt now0 i=0:=by
 unfold nowAt now0
 rw [List.getD_eq_getElem?_getD,List.getElem?_replicate]
 split <;> rfl
theorem NetL.net0 (n:NetL) (v:Nat):∀ k,n.netN now0 v k=0
 | 0=>rfl
 | k+1=>by
  simp only [NetL.netN,n.net0 v k]
  cases n.pipes[k]? with
  | none=>rfl
  | some p=>simp [Pp.out,now0_at]
theorem NetL.flow0 (n:NetL):n.Flow now0 0 0:=by
 refine ⟨⟨rfl,fun i _=>now0_at i,fun i p _ _=>by rw [now0_at];omega,fun i p _ _=>by rw [now0_at];omega,fun i p _ _=>by rw [now0_at];omega,fun i p _ _=>by rw [now0_at];omega,fun i p _ _=>by rw [now0_at];omega,fun i=>by rw [now0_at];omega⟩,fun v _ _=>n.net0 v _,?_⟩
 unfold NetL.outOf
 rw [sumS_congr (g:=fun _=>0) fun v _=>by unfold NetL.net;rw [n.net0];simp,sumS_zero]
 rfl

def NetL.Free (n:NetL):Prop:=∀ v,n.wanted.testBit v=true→n.kept.testBit v=false

theorem NetL.Flow.cut {n:NetL} {w:List Int} {m:Nat} {B:Int} (h:n.Flow w m B) {X:Nat} (hk:Sub n.kept X) (hw:∀ v,X.testBit v=true→n.wanted.testBit v=false):n.outOf w X=m:=by
 rw [← h.val]
 unfold NetL.outOf
 refine sumS_congr fun v _=>?_
 cases hX:X.testBit v with
 | true =>
  cases hkv:n.kept.testBit v with
  | true=>rfl
  | false =>
   simp only [if_true,Bool.false_eq_true,if_false]
   exact h.bal v hkv (hw v hX)
 | false =>
  cases hkv:n.kept.testBit v with
  | true=>rw [hk v hkv] at hX;cases hX
  | false=>rfl

theorem NetL.Flow.push {n:NetL} (hn:n.Ok) (hf:n.Free) {w w':List Int} {m:Nat} {B:Int} (h:n.Flow w m B) {s:Nat} (hp:n.push w=(true,s,w')):n.Flow w' (m+1) (B+1):=by
 have h1:=NetL.push_ok hn h.inv
 rw [hp] at h1
 simp only at h1
 obtain ⟨hinv,k,t,hk,ht,hnet⟩:=h1
 have hkt:=hf t ht
 refine ⟨hinv,fun v h1 h2=>?_,?_⟩
 ·rw [hnet v,h.bal v h1 h2,b2i_false (by simp;rintro rfl;rw [hk] at h1;cases h1),b2i_false (by simp;rintro rfl;rw [ht] at h2;cases h2)]
  rfl
 ·have hv:=h.val
  unfold NetL.outOf at hv ⊢
  have e:(sumS 7 fun v=>if n.kept.testBit v=true then n.net w' v else 0)=(sumS 7 fun v=>if n.kept.testBit v=true then n.net w v else 0)+sumS 7 fun v=>if k=v then 1 else 0:=by
   rw [← sumS_add]
   refine sumS_congr fun v _=>?_
   rw [hnet v]
   cases hkv:n.kept.testBit v with
   | false =>
    have:k≠v:=fun e=>by subst e;rw [hk] at hkv;cases hkv
    simp [this]
   | true =>
    have h2:b2i (decide (v=t))=0:=b2i_false (by simp;rintro rfl;rw [hkt] at hkv;cases hkv)
    rw [h2]
    simp only [if_true]
    unfold b2i
    by_cases e:v=k
    ·subst e;simp
    ·have e':¬ k=v:=fun h=>e h.symm
     simp [e,e']
  rw [e,hv,sumS_one,if_pos (bit_lt hn.k hk)]
  omega

def cntI (k:Nat) (p:Nat→Bool):Int:=sumS k fun i=>if p i=true then 1 else 0
theorem cntI_len (k:Nat) (p:Nat→Bool):cntI k p=(((List.range k).filter p).length:Int):=by
 unfold cntI
 induction k with
 | zero=>rfl
 | succ k ih =>
  rw [List.range_succ,List.filter_append,List.length_append]
  simp only [sumS,ih]
  cases hp:p k <;> simp [hp]

def NetL.edge (n:NetL) (X i:Nat):Bool:=match n.pipes[i]? with
 | none=>false
 | some p=>n.opN i && (X.testBit p.fr != X.testBit p.to)

theorem NetL.Full.count {n:NetL} {w:List Int} {m:Nat} {B:Int} (hn:n.Ok) (h:n.Flow w m B) {X:Nat} (hX:n.Full w X) :
    ((List.range n.pipes.length).filter (n.edge X)).length=m∧∀ i p,n.pipes[i]?=some p→n.edge X i=true→p.welded=false:=by
  have key:∀ i p,n.pipes[i]?=some p→n.cross w X i=(if n.edge X i=true then 1 else 0)∧(n.edge X i=true→p.welded=false):=by
   intro i p hp
   have hpe:=hn.pe p (List.mem_of_getElem? hp)
   unfold NetL.cross NetL.edge
   rw [hp]
   simp only
   rcases Bool.eq_false_or_eq_true (X.testBit p.fr) with h1 | h1
   ·simp only [h1]
    rcases Bool.eq_false_or_eq_true (X.testBit p.to) with h2 | h2
    ·simp [h2]
    ·simp only [h2]
     have hr:n.room w i p.fr=false:=by
      cases hr:n.room w i p.fr with
      | false=>rfl
      | true=>rw [hX.out p.fr i p p.to h1 hp (.inl ⟨rfl,rfl⟩) hr] at h2;cases h2
     rcases NetL.room_none hp hr with h3 | ⟨h3,h4⟩
     ·rw [h3,h.inv.shut i h3];simp
     ·rw [if_neg (by omega)] at h4
      have h5:=h.inv.unit i p hp h3
      have h6:nowAt w i=1:=by omega
      have h7:n.opN i=true:=by
       cases ho:n.opN i with
       | true=>rfl
       | false=>rw [h.inv.shut i ho] at h6;omega
      rw [h6,h7];simp [h3]
   ·simp only [h1]
    rcases Bool.eq_false_or_eq_true (X.testBit p.to) with h2 | h2
    rotate_left
    ·simp [h2]
    ·simp only [h2]
     have hr:n.room w i p.to=false:=by
      cases hr:n.room w i p.to with
      | false=>rfl
      | true=>rw [hX.out p.to i p p.fr h2 hp (.inr ⟨rfl,rfl⟩) hr] at h1;cases h1
     rcases NetL.room_none hp hr with h3 | ⟨h3,h4⟩
     ·rw [h3,h.inv.shut i h3];simp
     ·rw [if_pos rfl] at h4
      have h5:=h.inv.unit i p hp h3
      have h6:nowAt w i=-1:=by omega
      have h7:n.opN i=true:=by
       cases ho:n.opN i with
       | true=>rfl
       | false=>rw [h.inv.shut i ho] at h6;omega
      rw [h6,h7];simp [h3]
  refine ⟨?_,fun i p hp=>(key i p hp).2⟩
  have h1:=h.cut hX.k hX.w
  rw [NetL.out_cross hn] at h1
  have h2:sumS n.pipes.length (n.cross w X)=cntI n.pipes.length (n.edge X):=sumS_congr fun i hi=>(key i _ (List.getElem?_eq_getElem hi)).1
  rw [h2,cntI_len] at h1
  omega

def NetL.less (n:NetL) (B:Nat→Bool):NetL:={ n with op:=(List.range 12).map fun i=>n.opN i && !(B i) }
theorem NetL.less_op (n:NetL) (hn:n.Ok) (B:Nat→Bool) (i:Nat):(n.less B).opN i=(n.opN i && !(B i)):=by
 unfold NetL.opN NetL.less
 simp only [List.getD_eq_getElem?_getD,List.getElem?_map]
 by_cases h:i<12
 ·simp [h]
  rfl
 ·have:n.op[i]?=none:=List.getElem?_eq_none (by rw [hn.o];omega)
  simp [h,this]
theorem NetL.less_ok {n:NetL} (hn:n.Ok) (B:Nat→Bool):(n.less B).Ok:=⟨hn.t1,hn.t7,hn.p,hn.pe,hn.k,hn.w,by simp [NetL.less]⟩

def NetL.Sep (n:NetL) (B:Nat→Bool):Prop:=∀ k t,n.kept.testBit k=true→n.wanted.testBit t=true→¬ (n.less B).Con k t
def NetL.Fl (n:NetL) (B:Nat→Bool):Prop:=∀ i p,n.pipes[i]?=some p→B i=true→p.welded=false
def NetL.many (n:NetL) (B:Nat→Bool):Nat:=((List.range n.pipes.length).filter B).length

theorem NetL.Flow.most {n:NetL} {w:List Int} {m:Nat} {b:Int} (hn:n.Ok) (h:n.Flow w m b) {B:Nat→Bool} (hfl:n.Fl B) (hsep:n.Sep B):m≤n.many B:=by
 have hno:=NetL.less_ok hn B
 obtain ⟨X,hX⟩:∃ X,(n.less B).joined n.kept=X:=⟨_,rfl⟩
 have hj:=NetL.joined_iff hno (s:=n.kept) hn.k
 rw [hX] at hj
 have hk:Sub n.kept X:=fun v hv=>(hj v).2 ⟨v,hv,.refl v⟩
 have hw:∀ v,X.testBit v=true→n.wanted.testBit v=false:=fun v hv=>by
  obtain ⟨u,hu,hc⟩:=(hj v).1 hv
  cases hwv:n.wanted.testBit v with
  | false=>rfl
  | true=>exact absurd hc (hsep u v hu hwv)
 have h1:=h.cut hk hw
 rw [NetL.out_cross hn] at h1
 have h2:sumS n.pipes.length (n.cross w X)≤cntI n.pipes.length B:=sumS_le fun i hi=>by
  have hp:n.pipes[i]?=some n.pipes[i]:=List.getElem?_eq_getElem hi
  obtain ⟨p,hpp⟩:∃ p,n.pipes[i]=p:=⟨_,rfl⟩
  rw [hpp] at hp
  have closed:B i=false→n.opN i=true→X.testBit p.fr=X.testBit p.to:=fun hb ho=>by
   have ha:(n.less B).adj p.fr p.to:=⟨i,p,hp,by rw [n.less_op hn,hb,ho];rfl,.inl ⟨rfl,rfl⟩⟩
   have c1:X.testBit p.fr=true→X.testBit p.to=true:=fun h=>by
    obtain ⟨u,hu,hc⟩:=(hj _).1 h
    exact (hj _).2 ⟨u,hu,.step hc ha⟩
   have c2:X.testBit p.to=true→X.testBit p.fr=true:=fun h=>by
    obtain ⟨u,hu,hc⟩:=(hj _).1 h
    exact (hj _).2 ⟨u,hu,.step hc (NetL.adj_symm ha)⟩
   cases e1:X.testBit p.fr <;> cases e2:X.testBit p.to <;> simp_all
  unfold NetL.cross
  rw [hp]
  simp only
  cases hb:B i with
  | false =>
   simp only [Bool.false_eq_true,if_false]
   cases ho:n.opN i with
   | false=>rw [h.inv.shut i ho];simp
   | true=>rw [closed hb ho];omega
  | true =>
   have h5:=h.inv.unit i p hp (hfl i p hp hb)
   simp only [if_true]
   split <;> split <;> omega
 rw [cntI_len] at h2
 unfold NetL.many
 omega

theorem NetL.Full.sep {n:NetL} {w:List Int} {m:Nat} {B:Int} (hn:n.Ok) (h:n.Flow w m B) {X:Nat} (hX:n.Full w X):n.Sep (n.edge X)∧n.Fl (n.edge X)∧n.many (n.edge X)=m:=by
 obtain ⟨h1,h2⟩:=hX.count hn h
 refine ⟨fun k t hk ht hc=>?_,h2,h1⟩
 have:=hc.closed (X:=fun v=>X.testBit v=true) (fun u v hu ha=>?_) (hX.k k hk)
 ·rw [hX.w t this] at ht;cases ht
 ·obtain ⟨i,p,hp,ho,he⟩:=ha
  have hp:n.pipes[i]?=some p:=hp
  rw [n.less_op hn,Bool.and_eq_true] at ho
  have he2:n.edge X i=false:=by simpa using ho.2
  unfold NetL.edge at he2
  rw [hp,ho.1] at he2
  simp only [Bool.true_and,bne_eq_false_iff_eq] at he2
  rcases he with ⟨rfl,rfl⟩ | ⟨rfl,rfl⟩
  ·exact he2 ▸ hu
  ·exact he2.symm ▸ hu

structure NetL.Need (n:NetL) (m:Nat):Prop where
 some:∃ B,n.Sep B∧n.Fl B∧n.many B=m
 most:∀ B,n.Sep B→n.Fl B→m≤n.many B

theorem NetL.many_le (n:NetL) (B:Nat→Bool):n.many B≤n.pipes.length:=by
 unfold NetL.many
 exact Nat.le_trans (List.length_filter_le _ _) (by simp)

theorem NetL.flowF_ok {n:NetL} (hn:n.Ok) (hf:n.Free):∀ (r m:Nat) (w:List Int) (B:Int),n.Flow w m B→n.pipes.length+1≤r+m→m≤n.pipes.length →
    match n.flowF r m w with
    | some (w',m')=>n.Flow w' m' (B+r)∧n.Need m'
    | none=>∀ B,n.Sep B→¬ n.Fl B
  | 0,m,w,B,h,hr,hm=>by omega
  | r+1,m,w,B,h,hr,hm=>by
   unfold NetL.flowF
   obtain ⟨⟨b,s,w'⟩,hres⟩:∃ x,n.push w=x:=⟨_,rfl⟩
   rw [hres]
   cases b with
   | true =>
    simp only
    have h2:=h.push hn hf hres
    by_cases hl:m+1 > n.pipes.length
    ·rw [if_pos hl]
     intro B hs hfl
     have:=h2.most hn hfl hs
     have:=n.many_le B
     omega
    ·rw [if_neg hl]
     have ih:=NetL.flowF_ok hn hf r (m+1) w' (B+1) h2 (by omega) (by omega)
     rw [show B+((r+1:Nat):Int)=B+1+(r:Int) by omega]
     exact ih
   | false =>
    simp only
    have h1:=NetL.push_ok hn h.inv
    rw [hres] at h1
    simp only at h1
    obtain ⟨rfl,hX⟩:=h1
    obtain ⟨h2,h3,h4⟩:=hX.sep hn h
    refine ⟨⟨?_,h.bal,h.val⟩,⟨_,h2,h3,h4⟩,fun B hs hfl=>h.most hn hfl hs⟩
    have hi:=h.inv
    exact ⟨hi.len,hi.shut,hi.unit,hi.kfr,hi.kto,hi.wfr,hi.wto,fun i=>by have:=hi.bnd i;omega⟩

theorem NetL.flow_ok {n:NetL} (hn:n.Ok) (hf:n.Free):match n.flow with
    | some (w',m')=>n.Flow w' m' 20∧n.Need m'
    | none=>∀ B,n.Sep B→¬ n.Fl B:=by
  have:=NetL.flowF_ok hn hf 20 0 now0 0 n.flow0 (by have:=hn.p;omega) (Nat.zero_le _)
  exact this

end Go.Proofs.Vent

namespace Go.Proofs.Vent
open Go.V Go.Proofs

def intsN (l:List Nat):List (List D):=(l.map fun i=>((i:Nat):Int)).map encI
theorem intsN_len (l:List Nat):((intsN l).length:Int)=l.length:=by simp [intsN]
theorem intsN_get {l:List Nat} {i:Nat} (h:i<l.length):(intsN l)[((i:Int)).toNat]?=some [.int .i64 (l[i]:Nat)]:=by
 unfold intsN
 simp [h,encI]

def findIQ (n:NetL) (x:Bool × Nat × List Int) (d:D) (bs:List Box) (y:Yst):Prop:=∃ k:Int,d=.int .i64 k∧decide (k ≥ 0)=x.1∧bs=pushBs n x.2.2 x.2.1∧y=.non

set_option maxHeartbeats 4000000 in
theorem denY94 (n:NetL) (h:n.Ok) (l:List Nat) (s:Nat) (w:List Int) (B:Int) (hl:∀ k∈l,n.kept.testBit k=true) (hlen:l.length<1000) (hk:Sub n.kept s) (hs:s<2^7) (hinv:n.Inv w B) (hB:B≤500) :
    DenY Try.prog 94 [.list 1 (intsN l),cloF] (pushBs n w s) .non (findIQ n (n.pushL l s w)):=by
  refine mkY Try.func94 Try.call94 rfl rfl ?_
  have hll:=intsN_len l
  refine ⟨[0,1,7,8],4,[],fun σ=>∃ i s1:Nat,i≤l.length∧n.pushL l s w=n.pushL (l.drop i) s1 w∧Sub n.kept s1∧s1<2^7 ∧
   σ=⟨[(0,.list 1 (intsN l)),(1,cloF),(7,.int .i64 (intsN l).length),(8,.int .i64 i)],pushBs n w s1,.non⟩,
   fun σ=>(1000 - slotI 8 σ).toNat,rfl,⟨rfl,okB_push⟩,⟨0,s,Nat.zero_le _,rfl,hk,hs,rfl⟩,?_⟩
  rintro σ ⟨i,s1,hi,hrec,hk1,hs1,rfl⟩
  refine ⟨fun h1=>?_,fun h1=>?_⟩
  rotate_left
  ·have h1:=of_decide_eq_false h1
   rw [hll] at h1
   rw [List.drop_of_length_le (by omega)] at hrec
   rw [hrec]
   exact ⟨_,rfl,-1,rfl,rfl,rfl,rfl⟩
  have h1:=of_decide_eq_true h1
  rw [hll] at h1
  have hi':i<l.length:=by omega
  have less:(1000 - ((i:Int)+1)).toNat<(1000 - (i:Int)).toNat:=by omega
  have hrow:=intsN_get hi'
  have hdrop:l.drop i=l[i]'hi'::l.drop (i+1):=List.drop_eq_getElem_cons hi'
  have hkk:=hl _ (List.getElem_mem hi')
  obtain ⟨k,hkv⟩:∃ k,l[i]'hi'=k:=⟨_,rfl⟩
  rw [hkv] at hrow hdrop hkk
  have hst:n.pushL (l.drop i) s1 w=match n.findF 8 k s1 w with
   | (true,s',w')=>(true,s',w')
   | (false,s',w')=>n.pushL (l.drop (i+1)) s' w':=by rw [hdrop];rfl
  rw [hrec]
  have hk7:k<7:=bit_lt h.k hkk
  have hun:unseen s1<8:=Nat.lt_of_le_of_lt (cnt_le 7 _) (by decide)
  have hcall:=denY101 n h 8 k s1 w B hs1 (hk1 k hkk) hk1 hk7 hinv hB hun
  have hfok:=NetL.findF_ok h 8 k s1 w B hs1 (hk1 k hkk) hk1 hk7 hinv hun
  obtain ⟨⟨b,s',w'⟩,hres⟩:∃ x,n.findF 8 k s1 w=x:=⟨_,rfl⟩
  rw [hres] at hcall hst hfok
  refine ⟨by omega,_,hrow,?_⟩
  cases b with
  | true =>
   refine Or.inr ⟨[0,1,2,3],[.int .i64 k,.loc 1 0,.loc 2 0,.loc 3 0],pushBs n w s1,_,rfl,rfl,rfl,get_bs (E:=[]),hcall,⟨_,_,_,rfl,rfl,rfl⟩,?_⟩
   rintro _ _ _ ⟨rfl,rfl,rfl⟩
   refine ⟨_,put_bs (E:=[]),?_⟩
   rw [hst]
   exact ⟨_,rfl,i,rfl,by simp,rfl,rfl⟩
  | false =>
   simp only at hfok
   obtain ⟨hw',hsub',hs',_⟩:=hfok
   subst hw'
   refine Or.inr ⟨[0,1,2,3],[.int .i64 k,.loc 1 0,.loc 2 0,.loc 3 0],pushBs n w' s1,_,rfl,rfl,rfl,get_bs (E:=[]),hcall,⟨_,_,_,rfl,rfl,rfl⟩,?_⟩
   rintro _ _ _ ⟨rfl,rfl,rfl⟩
   refine ⟨_,put_bs (E:=[]),?_⟩
   refine ⟨(i:Int)+1,wrap64 (by omega) (by omega),?_⟩
   exact ⟨⟨rfl,okB_push⟩,⟨i+1,s',hi',hst,hk1.trans hsub',hs',rfl⟩,less⟩

def containsQ (n:NetL) (x:Bool × Nat × List Int) (d:D) (bs:List Box) (y:Yst):Prop:=d=.bool x.1∧bs=pushBs n x.2.2 x.2.1∧y=.non

theorem denY74 (n:NetL) (h:n.Ok) (l:List Nat) (s:Nat) (w:List Int) (B:Int) (hl:∀ k∈l,n.kept.testBit k=true) (hlen:l.length<1000) (hk:Sub n.kept s) (hs:s<2^7) (hinv:n.Inv w B) (hB:B≤500) :
    DenY Try.prog 74 [.list 1 (intsN l),cloF] (pushBs n w s) .non (containsQ n (n.pushL l s w)):=by
  refine mkY Try.func74 Try.call74 rfl rfl ?_
  have hcall:=denY94 n h l s w B hl hlen hk hs hinv hB
  obtain ⟨⟨b,s',w'⟩,hres⟩:∃ x,n.pushL l s w=x:=⟨_,rfl⟩
  rw [hres] at hcall ⊢
  refine Or.inr ⟨[0,1,2,3],[.list 1 (intsN l),cloF],pushBs n w s,_,rfl,rfl,rfl,get_bs (E:=[]),hcall,⟨.int .i64 (if b=true then 0 else -1),_,_,_,rfl,by cases b <;> rfl,rfl,rfl⟩,?_⟩
  rintro _ _ _ ⟨k,rfl,hb,rfl,rfl⟩
  refine ⟨_,put_bs (E:=[]),?_⟩
  have hb:decide (k ≥ 0)=b:=hb
  exact ⟨_,rfl,by show D.bool (decide (k ≥ 0))=D.bool b;rw [hb],rfl,rfl⟩

def pushQ (n:NetL) (x:Bool × Nat × List Int) (d:D) (bs:List Box) (y:Yst):Prop:=d=.bool x.1∧bs=pushBs n x.2.2 x.2.1∧y=.non

set_option maxHeartbeats 2000000 in
theorem denY92 (n:NetL) (h:n.Ok) (w:List Int) (B:Int) (hinv:n.Inv w B) (hB:B≤500):DenY Try.prog 92 [.loc 0 0] [webB n w] .non (pushQ n (n.push w)):=by
 refine mkY Try.func92 Try.call92 rfl rfl ?_
 have hk:=h.k
 have h58:=den58 n.kept (by omega)
 have hcall:=denY74 n h (tanksU n.kept) n.kept w B (fun k hk=>(mem_tanksU.1 hk).2) (by unfold tanksU;exact Nat.lt_of_le_of_lt (List.length_filter_le _ _) (by simp)) (.refl _) h.k hinv hB
 have hpush:n.pushL (tanksU n.kept) n.kept w=n.push w:=rfl
 rw [hpush] at hcall
 obtain ⟨⟨b,s',w'⟩,hres⟩:∃ x,n.push w=x:=⟨_,rfl⟩
 rw [hres] at hcall ⊢
 refine Or.inr (Or.inr (Or.inr ⟨9,by kernel_rfl,?_⟩))
 refine ⟨_,rfl,_,h58,?_⟩
 refine Or.inr ⟨[0,1,2,3],[.list 1 (intsN (tanksU n.kept)),cloF],pushBs n w n.kept,_,rfl,rfl,rfl,get_bs (E:=[]),hcall,⟨_,_,_,rfl,rfl,rfl⟩,?_⟩
 rintro _ _ _ ⟨rfl,rfl,rfl⟩
 refine ⟨_,put_bs (E:=[]),?_⟩
 exact ⟨_,rfl,rfl,rfl,rfl⟩

end Go.Proofs.Vent

namespace Go.Proofs.Vent
open Go.V Go.Proofs

def NetL.flowZ (n:NetL):Int:=match n.flow with
 | none=>-1
 | some (_,m)=>m
def NetL.cutF (n:NetL):Nat→Nat→List Bool→Int→List Nat→List Nat
 | 0,_,_,_,bl=>bl
 | c+1,i,op,most,bl=>if most=0 then bl else match n.pipes[i]? with
  | none=>bl
  | some p=>match p.welded with
   | true=>n.cutF c (i+1) op most bl
   | false=>if ({ n with op:=op.set i false }:NetL).flowZ<most then n.cutF c (i+1) (op.set i false) ({ n with op:=op.set i false }:NetL).flowZ (bl++[i])
    else n.cutF c (i+1) ((op.set i false).set i true) most bl
def NetL.cut (n:NetL):Option (List Nat):=if n.flowZ<0 then none else some (n.cutF n.pipes.length 0 n.op n.flowZ [])

def bset (l:List Nat) (i:Nat):Bool:=l.contains i
theorem bset_iff {l:List Nat} {i:Nat}:bset l i=true↔i∈l:=by unfold bset;simp

def NetL.listsF (n:NetL):Nat→Nat→Nat→List Nat→List (List Nat)
 | _,_,0,b=>[b]
 | 0,_,_+1,_=>[]
 | c+1,i,m+1,b=>(match n.pipes[i]? with
  | none=>[]
  | some p=>match p.welded with
   | true=>[]
   | false=>n.listsF c (i+1) m (b++[i]))++n.listsF c (i+1) (m+1) b

theorem NetL.listsF_mem {n:NetL}:∀ (c i m:Nat) (b l:List Nat),l∈n.listsF c i m b→i+c=n.pipes.length→(∀ j∈b,j<i)→b.Nodup→(∀ j p,j∈b→n.pipes[j]?=some p→p.welded=false) →
    l.length=b.length+m∧l.Nodup∧(∀ j∈b,j∈l)∧(∀ j p,j∈l→n.pipes[j]?=some p→p.welded=false)∧∀ j∈l,j<n.pipes.length
  | 0,i,0,b,l,h,hi,hb,hnd,hw=>by
   simp [NetL.listsF] at h
   subst h
   exact ⟨rfl,hnd,fun _ h=>h,hw,fun j hj=>by have:=hb j hj;omega⟩
  | c+1,i,0,b,l,h,hi,hb,hnd,hw=>by
   simp [NetL.listsF] at h
   subst h
   exact ⟨rfl,hnd,fun _ h=>h,hw,fun j hj=>by have:=hb j hj;omega⟩
  | 0,i,m+1,b,l,h,hi,hb,hnd,hw=>by simp [NetL.listsF] at h
  | c+1,i,m+1,b,l,h,hi,hb,hnd,hw=>by
   unfold NetL.listsF at h
   rw [List.mem_append] at h
   rcases h with h | h
   ·cases hp:n.pipes[i]? with
    | none=>rw [hp] at h;simp at h
    | some p =>
     rw [hp] at h
     simp only at h
     cases hwd:p.welded with
     | true=>rw [hwd] at h;simp at h
     | false =>
      rw [hwd] at h
      have ih:=NetL.listsF_mem c (i+1) m (b++[i]) l h (by omega) (fun j hj=>by
       rw [List.mem_append,List.mem_singleton] at hj
       rcases hj with hj | rfl
       ·have:=hb j hj;omega
       ·omega) (by
       rw [List.nodup_append]
       refine ⟨hnd,by simp,fun x hx y hy=>?_⟩
       rw [List.mem_singleton] at hy
       have:=hb x hx
       omega) (fun j q hj hq=>by
       rw [List.mem_append,List.mem_singleton] at hj
       rcases hj with hj | rfl
       ·exact hw j q hj hq
       ·rw [hp] at hq;cases hq;exact hwd)
      obtain ⟨h1,h2,h3,h4⟩:=ih
      refine ⟨by rw [h1,List.length_append];simp;omega,h2,fun j hj=>h3 j (by simp [hj]),h4⟩
   ·exact NetL.listsF_mem c (i+1) (m+1) b l h (by omega) (fun j hj=>by have:=hb j hj;omega) hnd hw

theorem many_list {n:NetL} {l:List Nat} (hnd:l.Nodup) (hl:∀ j∈l,j<n.pipes.length):n.many (bset l)=l.length:=by
 unfold NetL.many
 have h1:∀ (k:Nat) (l:List Nat),l.Nodup→(∀ j∈l,j<k)→((List.range k).filter (bset l)).length=l.length:=by
  intro k
  induction k with
  | zero =>
   intro l _ hl
   cases l with
   | nil=>rfl
   | cons a l=>exact absurd (hl a (by simp)) (by omega)
  | succ k ih =>
   intro l hnd hl
   rw [List.range_succ,List.filter_append,List.length_append]
   by_cases hk:k∈l
   · have h2:=ih (l.erase k) (hnd.erase k) fun j hj=>by
       have h3:=List.mem_of_mem_erase hj
       have h4:=hl j h3
       have:j≠k:=fun e=>by subst e;exact (hnd.not_mem_erase) hj
       omega
     have e:(List.range k).filter (bset l)=(List.range k).filter (bset (l.erase k)):=by
      refine List.filter_congr fun j hj=>?_
      have hj:j<k:=List.mem_range.1 hj
      apply Bool.eq_iff_iff.2
      rw [bset_iff,bset_iff,List.mem_erase_of_ne (by omega)]
     rw [e,h2,List.length_erase_of_mem hk]
     have h3:bset l k=true:=bset_iff.2 hk
     have h4:0<l.length:=List.length_pos_of_mem hk
     simp [h3]
     omega
   · have h2:=ih l hnd fun j hj=>by
       have:=hl j hj
       have:j≠k:=fun e=>by subst e;exact hk hj
       omega
     have h3:bset l k=false:=by
      cases h:bset l k with
      | false=>rfl
      | true=>exact absurd (bset_iff.1 h) hk
     rw [h2]
     simp [h3]
 exact h1 _ l hnd hl

end Go.Proofs.Vent

namespace Go.Proofs.Vent
open Go.V Go.Proofs

def flowQ (n:NetL) (d:D) (bs:List Box) (y:Yst):Prop:=∃ (w':List Int) (s':Nat),bs=pushBs n w' s'∧y=.non∧match n.flow with
 | some (w,m)=>w'=w∧d=.tup [.loc 0 0,.int .i64 (m:Nat)]
 | none=>d=.tup [.nilp,.int .i64 (-1)]

theorem NetL.flowF_m {n:NetL} (r m:Nat) (w:List Int):n.flowF (r+1) m w=match n.push w with
    | (true,_,w')=>if m+1 > n.pipes.length then none else n.flowF r (m+1) w'
    | (false,_,w')=>some (w',m):=rfl

set_option maxHeartbeats 4000000 in
theorem denY71 (n:NetL) (h:n.Ok):DenY Try.prog 71 [.ro n.enc] [] .non (flowQ n):=by
 refine mkY Try.func71 Try.call71 rfl rfl ?_
 have h12:=h.p
 have hpl:((n.pipes.map Pp.enc).length:Int)=n.pipes.length:=by simp
 refine ⟨[0,2,3],1,[],fun σ=>∃ (m r:Nat) (w:List Int),m≤n.pipes.length∧n.pipes.length+1≤r+m∧n.flowF 20 0 now0=n.flowF r m w∧n.Inv w (m:Int) ∧
  σ=⟨[(0,.ro n.enc),(2,.loc 0 0),(3,.int .i64 m)],[webB n w],.non⟩,
  fun σ=>(1000 - slotI 3 σ).toNat,rfl,⟨rfl,rfl⟩,⟨0,20,now0,Nat.zero_le _,by omega,rfl,n.flow0.inv,rfl⟩,?_⟩
 rintro σ ⟨m,r,w,hm,hr,hrec,hinv,rfl⟩
 obtain ⟨r,rfl⟩:∃ q,r=q+1:=⟨r - 1,by omega⟩
 have less:(1000 - ((m:Int)+1)).toNat<(1000 - (m:Int)).toNat:=by omega
 rw [NetL.flowF_m r m w] at hrec
 have hcall:=denY92 n h w m hinv (by omega)
 have hpok:=NetL.push_ok h hinv
 obtain ⟨⟨b,s',w'⟩,hres⟩:∃ x,n.push w=x:=⟨_,rfl⟩
 rw [hres] at hcall hrec hpok
 have hcall:DenY Try.prog 92 [.loc 0 0] [webB n w] .non (fun d bs y=>d=.bool b∧bs=pushBs n w' s'∧y=.non):=hcall
 have hflow:n.flow=n.flowF 20 0 now0:=rfl
 refine Or.inr ⟨[0],[.loc 0 0],[webB n w],_,rfl,rfl,rfl,get_b1,hcall,⟨_,_,_,rfl,rfl,rfl⟩,?_⟩
 rintro _ _ _ ⟨rfl,rfl,rfl⟩
 refine ⟨_,put_b1,?_⟩
 cases b with
 | true =>
  refine ⟨fun _=>?_,fun h=>absurd h (by decide)⟩
  have hpok:n.Inv w' ((m:Int)+1):=hpok.1
  have hrec:n.flowF 20 0 now0=if m+1 > n.pipes.length then none else n.flowF r (m+1) w':=hrec
  refine ⟨(m:Int)+1,wrap64 (by omega) (by omega),?_⟩
  refine ⟨fun h1=>?_,fun h1=>?_⟩
  ·have h1:=of_decide_eq_true h1
   rw [hpl] at h1
   rw [if_pos (by omega)] at hrec
   refine ⟨_,rfl,w',s',rfl,rfl,?_⟩
   rw [hflow,hrec]
  ·have h1:=of_decide_eq_false h1
   rw [hpl] at h1
   rw [if_neg (by omega)] at hrec
   exact ⟨⟨rfl,okB_web⟩,⟨m+1,r,w',by omega,by omega,hrec,by rw [Int.natCast_add];exact hpok,rfl⟩,less⟩
 | false =>
  refine ⟨fun h=>absurd h (by decide),fun _=>?_⟩
  have hrec:n.flowF 20 0 now0=some (w',m):=hrec
  refine ⟨_,rfl,w',s',rfl,rfl,?_⟩
  rw [hflow,hrec]
  exact ⟨rfl,rfl⟩

theorem den71 (n:NetL) (h:n.Ok):DN 71 [.ro n.enc] (.tup [.und,.int .i64 n.flowZ]):=by
 refine den_of_Y (Q:=flowQ n) (fun d bs y hq I β v hv=>?_) (denY71 n h)
 obtain ⟨w',s',_,_,hq⟩:=hq
 have fin:∀ (a:D) (m:Int),d=.tup [a,.int .i64 m]→Rel I nob v (.tup [.und,.int .i64 m]):=by
  rintro a m rfl
  obtain ⟨cs,rfl,hl,hr⟩:=hv.tup_inv
  refine .tup cs _ hl fun i u e hu he=>?_
  match i with
  | 0=>simp at he;subst he;exact .und u
  | 1 =>
   simp at he
   subst he
   have:=hr 1 u _ hu rfl
   cases this
   exact .int _ _
  | i+2=>simp at he
 unfold NetL.flowZ
 cases hf:n.flow with
 | none=>rw [hf] at hq;exact fin _ _ hq
 | some x =>
  obtain ⟨w,m⟩:=x
  rw [hf] at hq
  exact fin _ _ hq.2

end Go.Proofs.Vent

namespace Go.Proofs.Vent
open Go.V Go.Proofs

theorem twelve {α:Type} {l:List α} (h:l.length=12):∃ a0 a1 a2 a3 a4 a5 a6 a7 a8 a9 a10 a11,l=[a0,a1,a2,a3,a4,a5,a6,a7,a8,a9,a10,a11]:=by
 match l,h with
 | [a0,a1,a2,a3,a4,a5,a6,a7,a8,a9,a10,a11],_=>exact ⟨_,_,_,_,_,_,_,_,_,_,_,_,rfl⟩

def TellB (cs:List D) (op:List Bool):Prop:=cs.map normB=op.map D.bool
theorem TellB.refl (op:List Bool):TellB (op.map D.bool) op:=by
 unfold TellB
 rw [List.map_map]
 rfl
theorem normB_inv {d:D} {b:Bool} (h:normB d=.bool b):d=.bool b∨(d=.tt∧b=true)∨(d=.ff∧b=false):=by
 cases d <;> simp [normB] at h <;> simp [h]
theorem TellB.mapO {bs:List Box} {m:Nat}:∀ {cs:List D} {op:List Bool},TellB cs op→mapO (reify bs (m+1)) cs=some (op.map D.bool)
 | [],[],_=>rfl
 | [],_::_,h=>by simp [TellB] at h
 | _::_,[],h=>by simp [TellB] at h
 | c::cs,b::op,h=>by
  unfold TellB at h
  simp only [List.map_cons,List.cons.injEq] at h
  have ih:=TellB.mapO (bs:=bs) (m:=m) (cs:=cs) (op:=op) h.2
  rcases normB_inv h.1 with rfl | ⟨rfl,rfl⟩ | ⟨rfl,rfl⟩ <;> exact mapO_cons rfl ih
theorem TellB.set {cs:List D} {op:List Bool} (h:TellB cs op) (i:Nat) {d:D} {b:Bool} (hd:normB d=.bool b):TellB (cs.set i d) (op.set i b):=by
 unfold TellB at h ⊢
 rw [List.map_set,List.map_set,h,hd]
theorem TellB.len {cs:List D} {op:List Bool} (h:TellB cs op):cs.length=op.length:=by
 have:=congrArg List.length h
 simpa using this
theorem TellB.okAll (nb:Nat):∀ {cs:List D} {op:List Bool},TellB cs op→okAll nb cs=true
 | [],[],_=>rfl
 | [],_::_,h=>by simp [TellB] at h
 | _::_,[],h=>by simp [TellB] at h
 | c::cs,b::op,h=>by
  unfold TellB at h
  simp only [List.map_cons,List.cons.injEq] at h
  have ih:=TellB.okAll nb (cs:=cs) (op:=op) h.2
  rcases normB_inv h.1 with rfl | ⟨rfl,rfl⟩ | ⟨rfl,rfl⟩ <;> exact ih

theorem splice_4 {a b c d:D} {l:List D} {k:Nat} {x:D} (h:k<l.length):splice (a::b::c::d::l) (4+k) [x]=a::b::c::d::l.set k x:=by
 unfold splice
 rw [show 4+k=k+1+1+1+1 by omega]
 simp only [List.take_succ_cons,List.cons_append,List.length_cons,List.length_nil]
 congr 4
 rw [show k+1+1+1+1+(0+1)=(k+(0+1))+1+1+1+1 by omega,List.set_eq_take_append_cons_drop,if_pos h]
 rfl

theorem okB_x {t p:List (List D)} {k w:Int} {O:List D} (hO:okAll 2 O=true) {g:Nat} {rs:List (List D)}:okBoxes 2 [.flat false (.list 2 t::.list 3 p::.int .u64 k::.int .u64 w::O),.rows false g 1 rs]=true:=by
 simp [okBoxes,okAll,okAt,hO]

def NetL.withOp (n:NetL) (op:List Bool):NetL:={ n with op:=op }
theorem NetL.withOp_ok {n:NetL} (h:n.Ok) {op:List Bool} (ho:op.length=12):(n.withOp op).Ok:=⟨h.t1,h.t7,h.p,h.pe,h.k,h.w,ho⟩

def cutR (n:NetL):D:=match n.cut with
 | none=>.tup [.list 1 [],.bool false]
 | some l=>.tup [.list 1 (intsN l),.bool true]

theorem intsN_app (l:List Nat) (i:Nat):intsN l++[[D.int .i64 i]]=intsN (l++[i]):=by simp [intsN,encI]

set_option maxHeartbeats 8000000 in
theorem den68 (n:NetL) (h:n.Ok):DN 68 [.ro n.enc] (cutR n):=by
 obtain ⟨o0,o1,o2,o3,o4,o5,o6,o7,o8,o9,o10,o11,ho⟩:=twelve h.o
 have henc:n.enc=[.list 2 (n.tanks.map Tk.enc),.list 3 (n.pipes.map Pp.enc),.int .u64 n.kept,.int .u64 n.wanted,.bool o0,.bool o1,.bool o2,.bool o3,.bool o4,.bool o5,.bool o6,.bool o7,.bool o8,.bool o9,.bool o10,.bool o11]:=by
  unfold NetL.enc
  rw [ho]
  rfl
 have h71:=den71 n h
 have h12:=h.p
 have hpl:((n.pipes.map Pp.enc).length:Int)=n.pipes.length:=by simp
 rw [henc] at h71 ⊢
 refine mkW Try.func68 Try.call68 rfl rfl ?_
 have hcut:n.cut=if n.flowZ<0 then none else some (n.cutF n.pipes.length 0 n.op n.flowZ []):=rfl
 obtain ⟨z,hz⟩:∃ z,n.flowZ=z:=⟨_,rfl⟩
 rw [hz] at h71 hcut
 refine .inl ⟨_,rfl,_,h71,?_⟩
 refine ⟨fun h1=>?_,fun h1=>?_⟩
 ·have h1:z<0:=of_decide_eq_true h1
  rw [if_pos h1] at hcut
  unfold cutR
  rw [hcut]
  exact ⟨_,rfl,.tcons (.nil 0 1) (.refl _)⟩
 have h1:¬ z<0:=of_decide_eq_false h1
 rw [if_neg h1] at hcut
 have hcr:cutR n=.tup [.list 1 (intsN (n.cutF n.pipes.length 0 n.op z [])),.bool true]:=by unfold cutR;rw [hcut]
 rw [hcr]
 refine ⟨[2,5,6,25,26,27],1,[(.slot 2,1)],fun σ=>∃ (i g:Nat) (op:List Bool) (cs:List D) (most:Int) (bl:List Nat),i≤n.pipes.length∧op.length=12∧TellB cs op∧bl.length≤i ∧
  n.cutF n.pipes.length 0 n.op z []=n.cutF (n.pipes.length - i) i op most bl ∧
  σ=⟨[(2,.sl 1 g 0 (intsN bl).length),(5,.int .i64 most),(6,.loc 0 0),(25,.list 3 (n.pipes.map Pp.enc)),(26,.int .i64 (n.pipes.map Pp.enc).length),(27,.int .i64 i)],
   [.flat false (.list 2 (n.tanks.map Tk.enc)::.list 3 (n.pipes.map Pp.enc)::.int .u64 n.kept::.int .u64 n.wanted::cs),.rows false g 1 (intsN bl)],.non⟩,
  fun σ=>(1000 - slotI 27 σ).toNat,rfl,⟨rfl,rfl⟩,⟨0,0,n.op,n.op.map D.bool,z,[],Nat.zero_le _,h.o,.refl _,Nat.zero_le _,rfl,by rw [ho];rfl⟩,?_⟩
 rintro σ ⟨i,g,op,cs,most,bl,hi,hop,htell,hbl,hrec,rfl⟩
 have fin:∀ l,n.cutF n.pipes.length 0 n.op z []=l→l=bl→∃ d0,some (D.tup [.list 1 (intsN bl),.bool true])=some d0∧Wk d0 (.tup [.list 1 (intsN (n.cutF n.pipes.length 0 n.op z [])),.bool true]):=by
  rintro l h1 rfl
  rw [h1]
  exact ⟨_,rfl,.refl _⟩
 have hreify:∀ (b0:Box) (bs:List Box),reify (b0::.rows false g 1 (intsN bl)::bs) 8 (.tup [.sl 1 g 0 (intsN bl).length,.tt])=some (.tup [.list 1 (intsN bl),.bool true]):=fun b0 bs=>reify_tup (mapO_cons (reify_sl rfl rfl) (mapO_cons rfl rfl))
 refine ⟨fun h2=>?_,fun h2=>?_⟩
 rotate_left
 ·have h2:=of_decide_eq_false h2
  rw [hpl] at h2
  have e:n.pipes.length - i=0:=by omega
  rw [e] at hrec
  obtain ⟨d0,e0,hw⟩:=fin bl hrec rfl
  exact ⟨d0,(hreify _ _).trans e0,hw⟩
 have h2:=of_decide_eq_true h2
 rw [hpl] at h2
 have hi':i<n.pipes.length:=by omega
 have less:(1000 - ((i:Int)+1)).toNat<(1000 - (i:Int)).toNat:=by omega
 obtain ⟨p,hp⟩:∃ p,n.pipes[i]'hi'=p:=⟨_,rfl⟩
 have hgp:n.pipes[i]?=some p:=by rw [List.getElem?_eq_getElem hi',hp]
 have hrow:(n.pipes.map Pp.enc)[((i:Int)).toNat]?=some (p.enc):=by simp [hi',hp]
 have hst:n.cutF (n.pipes.length - i) i op most bl=if most=0 then bl else match p.welded with
     | true=>n.cutF (n.pipes.length - (i+1)) (i+1) op most bl
     | false=>if (n.withOp (op.set i false)).flowZ<most then n.cutF (n.pipes.length - (i+1)) (i+1) (op.set i false) (n.withOp (op.set i false)).flowZ (bl++[i])
      else n.cutF (n.pipes.length - (i+1)) (i+1) ((op.set i false).set i true) most bl:=by
   rw [show n.pipes.length - i=(n.pipes.length - (i+1))+1 by omega]
   conv=>lhs;unfold NetL.cutF
   rw [hgp]
   rfl
 refine ⟨by omega,_,hrow,?_⟩
 refine ⟨fun h3=>?_,fun h3=>?_⟩
 ·have h3:(most==0)=true:=h3
  have h3:most=0:=by simpa using h3
  rw [if_pos h3] at hst
  obtain ⟨d0,e0,hw⟩:=fin _ (hrec.trans hst) rfl
  exact ⟨d0,(hreify _ _).trans e0,hw⟩
 have h3:(most==0)=false:=h3
 have h3:¬ most=0:=by simpa using h3
 rw [if_neg h3] at hst
 refine ⟨fun h4=>?_,fun h4=>?_⟩
 ·have h4:p.welded=true:=h4
  rw [h4] at hst
  refine ⟨(i:Int)+1,wrap64 (by omega) (by omega),?_⟩
  exact ⟨⟨rfl,okB_x (htell.okAll 2)⟩,⟨i+1,g,op,cs,most,bl,hi',hop,htell,by omega,hrec.trans hst,rfl⟩,less⟩
 have h4:p.welded=false:=h4
 rw [h4] at hst
 have hcl:cs.length=12:=by rw [htell.len,hop]
 have ht2:=htell.set i (d:=.ff) (b:=false) rfl
 have hn2:=NetL.withOp_ok h (op:=op.set i false) (by rw [List.length_set];exact hop)
 have hd2:=den71 (n.withOp (op.set i false)) hn2
 have henc2:(n.withOp (op.set i false)).enc=.list 2 (n.tanks.map Tk.enc)::.list 3 (n.pipes.map Pp.enc)::.int .u64 n.kept::.int .u64 n.wanted::(op.set i false).map D.bool:=rfl
 rw [henc2] at hd2
 obtain ⟨lz,hlz⟩:∃ z,(n.withOp (op.set i false)).flowZ=z:=⟨_,rfl⟩
 rw [hlz] at hd2 hst
 refine ⟨⟨by omega,by omega⟩,i,Nat.mul_one i,?_⟩
 refine ⟨by simp only [List.length_cons,List.length_nil];omega,_,splice_4 (by omega),?_⟩
 refine .inl ⟨_,mapO_cons (reify_loc rfl (mapO_cons rfl (mapO_cons rfl (mapO_cons rfl (mapO_cons rfl ht2.mapO))))) rfl,_,hd2,?_⟩
 refine ⟨fun h5=>?_,fun h5=>?_⟩
 ·have h5:lz<most:=of_decide_eq_true h5
  rw [if_pos h5] at hst
  have hlen2:(intsN bl).length=bl.length:=by simp [intsN]
  refine ⟨trivial,iff' (by rw [beq_self];rfl) ⟨Nat.le_of_eq (Nat.zero_add _),?_,_,old_all rfl,_,intsN_app bl i,trivial,?_⟩⟩
  ·rw [hlen2];show (_+1)*8≤mostBytes;unfold mostBytes;omega
  refine ⟨(i:Int)+1,wrap64 (by omega) (by omega),?_⟩
  exact ⟨⟨rfl,okB_x (ht2.okAll 2)⟩,⟨i+1,g+1,op.set i false,cs.set i .ff,lz,bl++[i],hi',by rw [List.length_set];exact hop,ht2,by simp;omega,hrec.trans hst,rfl⟩,less⟩
 ·have h5:¬ lz<most:=of_decide_eq_false h5
  rw [if_neg h5] at hst
  have ht3:=ht2.set i (d:=.tt) (b:=true) rfl
  refine ⟨⟨by omega,by omega⟩,i,Nat.mul_one i,?_⟩
  refine ⟨by simp only [List.length_cons,List.length_nil,List.length_set];omega,_,splice_4 (by rw [List.length_set];omega),?_⟩
  refine ⟨(i:Int)+1,wrap64 (by omega) (by omega),?_⟩
  exact ⟨⟨rfl,okB_x (ht3.okAll 2)⟩,⟨i+1,g,_,_,most,bl,hi',by rw [List.length_set,List.length_set];exact hop,ht3,by omega,hrec.trans hst,rfl⟩,less⟩

end Go.Proofs.Vent

namespace Go.Proofs.Vent
open Go.V Go.Proofs

theorem den55n0 (n:Nt) (blanks:List Int) (hbl:blanks.length<9223372036854775808):DN 55 [.agg n.enc,.list 1 (blanks.map encI),.list 0 [],.bool false] (n.lookD blanks [] false) :=
 (den55n n blanks hbl).args (.tcons (.refl _) (.tcons (.refl _) (.tcons (.nil 0 1) (.tcons (.refl _) .tnil))))
theorem den55w0 (n:Nt) (wanted:List Int) (hwl:wanted.length<9223372036854775808):DN 55 [.agg n.enc,.list 0 [],.list 1 (wanted.map encI),.bool true] (n.lookD [] wanted true) :=
 (den55w n [] wanted (by decide) hwl).args (.tcons (.refl _) (.tcons (.nil 0 1) (.tcons (.refl _) (.tcons (.refl _) .tnil))))

theorem Nt.lookD_ok {n:Nt} {blanks wanted:List Int} {asked:Bool} (h:n.lookE blanks wanted asked=0):n.lookD blanks wanted asked=.tup [.ro (n.look blanks wanted).enc,.int .i64 0]:=by unfold Nt.lookD;rw [if_pos h]
theorem Nt.lookD_bad {n:Nt} {blanks wanted:List Int} {asked:Bool} (h:¬ n.lookE blanks wanted asked=0):n.lookD blanks wanted asked=.tup [.nilp,.int .i64 (n.lookE blanks wanted asked)]:=by unfold Nt.lookD;rw [if_neg h]
theorem Nt.lookE_ok {n:Nt} {blanks wanted:List Int} {asked:Bool} (h:n.lookE blanks wanted asked=0):n.Ok∧n.blanksE blanks=none∧(asked=true→n.wantedE wanted=none):=by
 unfold Nt.lookE at h
 split at h
 ·exact absurd h (by assumption)
 ·rename_i hc
  refine ⟨Nt.check_ok (by simpa using hc),?_⟩
  cases hb:n.blanksE blanks with
  | some e=>rw [hb] at h;exact absurd h (eachF_pos _ _ _ _ _ _ hb)
  | none =>
   rw [hb] at h
   refine ⟨rfl,fun ha=>?_⟩
   subst ha
   simp only at h
   cases hw:n.wantedE wanted with
   | none=>rfl
   | some e =>
    rw [hw] at h
    simp only at h
    unfold Nt.wantedE at hw
    split at hw
    ·cases hw;cases h
    ·exact absurd h (eachF_pos _ _ _ _ _ _ hw)
theorem Nt.wantedE_in {n:Nt} {wanted:List Int} (h:n.wantedE wanted=none):inAll n.tanks.length wanted:=by
 unfold Nt.wantedE at h
 split at h
 ·cases h
 ·exact eachF_all h
theorem Nt.look_okn {n:Nt} {blanks:List Int} (h:n.lookE blanks [] false=0):(n.look blanks []).Ok:=Nt.look_ok (Nt.lookE_ok h).1 blanks (fun v hv=>by cases hv)
theorem Nt.look_okw {n:Nt} {blanks wanted:List Int} (h:n.lookE blanks wanted true=0):(n.look blanks wanted).Ok:=Nt.look_ok (Nt.lookE_ok h).1 blanks (Nt.wantedE_in ((Nt.lookE_ok h).2.2 rfl))

def NetL.firstJ (n:NetL) (i:Nat):Int:=dAt (Vent.tanks (n.joined (2^i))) 0
def rowsJ (n:NetL) (many k:Nat):List Int:=(List.range many).map fun j=>if j<k then n.firstJ j else 0
theorem rowsJ_len (n:NetL) (many k:Nat):(rowsJ n many k).length=many:=by simp [rowsJ]
theorem rowsJ_set {n:NetL} {many k:Nat} (hk:k<many):((rowsJ n many k).map encI).set k [.int .i64 (n.firstJ k)]=(rowsJ n many (k+1)).map encI:=by
 apply List.ext_getElem?
 intro i
 rw [List.getElem?_set]
 unfold rowsJ
 simp only [List.getElem?_map,List.length_map,List.length_range]
 by_cases e:k=i
 ·subst e
  rw [if_pos rfl,if_pos hk]
  simp [hk,encI]
 ·rw [if_neg e]
  by_cases hi:i<many
  ·simp only [List.getElem?_range hi,Option.map_some]
   by_cases h2:i<k
   ·rw [if_pos h2,if_pos (by omega)]
   ·rw [if_neg h2,if_neg (by omega)]
  ·simp [hi]
theorem first_get {n:NetL} (h:n.Ok) {i:Nat} (hi:i<7):((tanks (n.joined (2^i))).map encI)[((0:Int)).toNat]?=some [.int .i64 (n.firstJ i)]:=by
 have hj:=(NetL.joined_iff h (s:=2^i) (pow7 hi) i).2 ⟨i,by rw [pow_bit];simp,.refl i⟩
 have hne:0<(tanks (n.joined (2^i))).length:=by
  rw [tanks_eq,List.length_map]
  exact List.length_pos_of_mem (mem_tanksU.2 ⟨hi,hj⟩)
 unfold NetL.firstJ
 rw [dAt_get hne]
 simp [hne,encI]

def Nt.joinedR (n:Nt) (blanks:List Int):List Int × Int:=if n.lookE blanks [] false=0 then (rowsJ (n.look blanks []) n.tanks.length n.tanks.length,0) else ([],n.lookE blanks [] false)
def tupLI (x:List Int × Int):D:=.tup [.list 1 (x.1.map encI),.int .i64 x.2]

set_option maxHeartbeats 4000000 in
theorem den17 (n:Nt) (blanks:List Int) (hbl:blanks.length<9223372036854775808):DN 17 [.agg n.enc,.list 1 (blanks.map encI)] (tupLI (n.joinedR blanks)):=by
 have h55:=den55n0 n blanks hbl
 by_cases he:n.lookE blanks [] false=0
 ·rw [Nt.lookD_ok he] at h55
  have hR:n.joinedR blanks=(rowsJ (n.look blanks []) n.tanks.length n.tanks.length,0):=by unfold Nt.joinedR;rw [if_pos he]
  have hok:=Nt.look_okn he
  have hno:=(Nt.lookE_ok he).1
  obtain ⟨m,hm⟩:∃ m,n.look blanks []=m:=⟨_,rfl⟩
  have hmt:m.tanks=n.tanks:=by rw [← hm];rfl
  rw [hm] at h55 hR hok
  rw [hR]
  have h7:=hno.t7
  have htl:((m.tanks.map Tk.enc).length:Int)=n.tanks.length:=by rw [hmt];simp
  refine mk Try.func17 Try.call17 rfl rfl ?_
  refine ⟨_,rfl,_,h55,?_⟩
  refine ⟨fun h=>absurd h (by decide),fun _=>?_⟩
  refine ⟨Int.natCast_nonneg _,rfl,by rw [htl];show (8:Int)*_≤((mostBytes:Nat):Int);unfold mostBytes;omega,n.tanks.length,by rw [htl];exact Int.toNat_natCast _,_,(show List.replicate n.tanks.length [D.int .i64 0]=(rowsJ m n.tanks.length 0).map encI by unfold rowsJ;rw [List.map_map];apply List.ext_getElem?;intro i;simp only [List.getElem?_replicate,List.getElem?_map];by_cases hi:i<n.tanks.length <;> simp [hi,encI]),?_⟩
  refine ⟨[6,8,26,27,28],2,[],fun σ=>∃ i:Nat,i≤n.tanks.length ∧
   σ=⟨[(6,.ro m.enc),(8,.sl 1 0 0 n.tanks.length),(26,.sl 1 0 0 n.tanks.length),(27,.int .i64 n.tanks.length),(28,.int .i64 i)],[.flat false n.enc,.rows false 0 1 ((rowsJ m n.tanks.length i).map encI)],.non⟩,
   fun σ=>(1000 - slotI 28 σ).toNat,rfl,⟨rfl,rfl⟩,⟨0,Nat.zero_le _,rfl⟩,?_⟩
  rintro σ ⟨i,hi,rfl⟩
  refine ⟨fun h1=>?_,fun h1=>?_⟩
  ·have h1:=of_decide_eq_true h1
   have hi':i<n.tanks.length:=by omega
   have less:(1000 - ((i:Int)+1)).toNat<(1000 - (i:Int)).toNat:=by omega
   have hj:=m.joinF_lt hok 128 (2^i) (pow7 (by omega))
   refine ⟨_,rfl,_,den57 i (by omega),?_⟩
   refine ⟨_,rfl,_,den56 m hok (2^i) (pow7 (by omega)),?_⟩
   refine ⟨_,rfl,_,den58 (m.joined (2^i)) (Nat.lt_of_lt_of_le hj (by decide)),?_⟩
   refine ⟨by decide,_,first_get hok (by omega),?_⟩
   refine ⟨by omega,by omega,i,Nat.zero_add i,?_⟩
   have hrow:((rowsJ m n.tanks.length i).map encI)[i]?=some (encI ((rowsJ m n.tanks.length i)[i]'(by rw [rowsJ_len];exact hi'))):=by simp [rowsJ_len,hi']
   refine ⟨_,hrow,Nat.le_refl 1,_,rowsJ_set hi',?_⟩
   refine ⟨(i:Int)+1,wrap64 (by omega) (by omega),?_⟩
   exact ⟨⟨rfl,rfl⟩,⟨i+1,hi',rfl⟩,less⟩
  ·have h1:=of_decide_eq_false h1
   obtain rfl:i=n.tanks.length:=by omega
   have ht:n.tanks.length=((rowsJ m n.tanks.length n.tanks.length).map encI).length:=by rw [List.length_map,rowsJ_len]
   have hr:∀ bs,bs=[Box.flat false n.enc,Box.rows false 0 1 (List.map encI (rowsJ m n.tanks.length n.tanks.length))]→reify bs 8 (.tup [.sl 1 0 0 n.tanks.length,.int .i64 0])=some (.tup [.list 1 ((rowsJ m n.tanks.length n.tanks.length).map encI),.int .i64 0]):=by rintro _ rfl;exact reify_tup (mapO_cons (reify_sl rfl ht) (mapO_cons rfl rfl))
   exact hr _ rfl
 ·rw [Nt.lookD_bad he] at h55
  have hR:n.joinedR blanks=([],n.lookE blanks [] false):=by unfold Nt.joinedR;rw [if_neg he]
  rw [hR]
  obtain ⟨e,hee⟩:∃ e,n.lookE blanks [] false=e:=⟨_,rfl⟩
  rw [hee] at h55 he ⊢
  refine mkW Try.func17 Try.call17 rfl rfl ?_
  refine ⟨_,rfl,_,h55,?_⟩
  refine ⟨fun _=>?_,fun h=>?_⟩
  ·exact ⟨_,rfl,.tcons (.nil 0 1) (.refl _)⟩
  ·have h:(e != 0)=false:=h
   exact absurd (by simpa using h) he

def Nt.blanksR (n:Nt) (wanted:List Int):List Int × Int:=if n.lookE [] wanted true=0 then (match (n.look [] wanted).cut with
    | none=>([],9)
    | some l=>(l.map fun i=>((i:Nat):Int),0)) else ([],n.lookE [] wanted true)

set_option maxHeartbeats 2000000 in
theorem den26 (n:Nt) (wanted:List Int) (hwl:wanted.length<9223372036854775808):DN 26 [.agg n.enc,.list 1 (wanted.map encI)] (tupLI (n.blanksR wanted)):=by
 have h55:=den55w0 n wanted hwl
 by_cases he:n.lookE [] wanted true=0
 ·rw [Nt.lookD_ok he] at h55
  have hok:=Nt.look_okw he
  obtain ⟨m,hm⟩:∃ m,n.look [] wanted=m:=⟨_,rfl⟩
  have hR:n.blanksR wanted=(match m.cut with | none=>([],9) | some l=>(l.map fun i=>((i:Nat):Int),0)):=by unfold Nt.blanksR;rw [if_pos he,hm]
  rw [hm] at h55 hok
  rw [hR]
  have h68:=den68 m hok
  unfold cutR at h68
  refine mkW Try.func26 Try.call26 rfl rfl ?_
  refine ⟨_,rfl,_,h55,?_⟩
  refine ⟨fun h=>absurd h (by decide),fun _=>?_⟩
  cases hc:m.cut with
  | none =>
   rw [hc] at h68
   refine ⟨_,rfl,_,h68,?_⟩
   refine ⟨fun _=>?_,fun h=>absurd h (by decide)⟩
   exact ⟨_,rfl,.tcons (.nil 0 1) (.refl _)⟩
  | some l =>
   rw [hc] at h68
   refine ⟨_,rfl,_,h68,?_⟩
   refine ⟨fun h=>absurd h (by decide),fun _=>?_⟩
   exact ⟨_,rfl,.refl _⟩
 ·rw [Nt.lookD_bad he] at h55
  have hR:n.blanksR wanted=([],n.lookE [] wanted true):=by unfold Nt.blanksR;rw [if_neg he]
  rw [hR]
  obtain ⟨e,hee⟩:∃ e,n.lookE [] wanted true=e:=⟨_,rfl⟩
  rw [hee] at h55 he ⊢
  refine mkW Try.func26 Try.call26 rfl rfl ?_
  refine ⟨_,rfl,_,h55,?_⟩
  refine ⟨fun _=>?_,fun h=>?_⟩
  ·exact ⟨_,rfl,.tcons (.nil 0 1) (.refl _)⟩
  ·have h:(e != 0)=false:=h
   exact absurd (by simpa using h) he

end Go.Proofs.Vent

namespace Go.Proofs.Vent
open Go.V Go.Proofs

structure Vs where
 tank:Int
 off:Bool
def Vs.enc (x:Vs):List D:=[.int .i64 x.tank,.bool x.off]

def NetL.afterL (n:NetL):List Vs→Nat→Nat→Int × Nat × Nat
 | [],f,b=>(0,f,b)
 | x::r,f,b=>match offB n.tanks.length x.tank with
  | true=>(4,f,b)
  | false=>match n.stepR f b x.tank.toNat x.off with
   | (_,false)=>(2,f,b)
   | ((f',b'),true)=>n.afterL r f' b'
def Nt.afterR (n:Nt) (blanks:List Int) (steps:List Vs):Int × Nat × Nat :=
 if n.lookE blanks [] false=0 then (if steps.length > 60 then (3,0,0) else (n.look blanks []).afterL steps 0 0) else (n.lookE blanks [] false,0,0)
def afterD (x:Int × Nat × Nat):D:=if x.1=0 then .tup [.agg [.list 1 ((tanks x.2.1).map encI),.list 1 ((tanks x.2.2).map encI)],.int .i64 0] else .tup [.agg [.list 0 [],.list 0 []],.int .i64 x.1]
theorem afterD_bad {e:Int} {y:Nat × Nat} (h:¬ e=0):afterD (e,y)=.tup [.agg [.list 0 [],.list 0 []],.int .i64 e]:=by unfold afterD;rw [if_neg h]

theorem NetL.spread_lt {n:NetL} {f b:Nat} (hf:f<2^7):n.spread f b<2^7:=by
 unfold NetL.spread
 have:∀ r f,f<2^7→n.spreadF r f b<2^7:=by
  intro r
  induction r with
  | zero=>intro f hf;exact hf
  | succ r ih =>
   intro f hf
   unfold NetL.spreadF
   split
   ·exact hf
   ·exact ih _ (n.spN_lt hf _)
 exact this 128 f hf
theorem NetL.stepR_lt {n:NetL} {f b i:Nat} {off:Bool} (hf:f<2^7) (hb:b<2^7) (hi:i<7):(n.stepR f b i off).1.1<2^7∧(n.stepR f b i off).1.2<2^7:=by
 unfold NetL.stepR
 split
 ·exact ⟨hf,hb⟩
 ·cases off with
  | true=>exact ⟨n.spread_lt hf,diff_lt hb⟩
  | false=>exact ⟨n.spread_lt (or_lt hf (pow7 hi)),or_lt hb (pow7 hi)⟩

set_option maxHeartbeats 4000000 in
theorem den20 (n:Nt) (blanks:List Int) (steps:List Vs) (hbl:blanks.length<9223372036854775808):DN 20 [.agg n.enc,.list 1 (blanks.map encI),.list 2 (steps.map Vs.enc)] (afterD (n.afterR blanks steps)):=by
 have h55:=den55n0 n blanks hbl
 have hsl:((steps.map Vs.enc).length:Int)=steps.length:=by simp
 by_cases he:n.lookE blanks [] false=0
 rotate_left
 ·rw [Nt.lookD_bad he] at h55
  have hR:n.afterR blanks steps=(n.lookE blanks [] false,0,0):=by unfold Nt.afterR;rw [if_neg he]
  rw [hR,afterD_bad he]
  obtain ⟨e,hee⟩:∃ e,n.lookE blanks [] false=e:=⟨_,rfl⟩
  rw [hee] at h55 he ⊢
  refine mk Try.func20 Try.call20 rfl rfl ?_
  refine ⟨_,rfl,_,h55,?_⟩
  refine ⟨fun _=>?_,fun h=>?_⟩
  ·rfl
  ·have h:(e != 0)=false:=h
   exact absurd (by simpa using h) he
 rw [Nt.lookD_ok he] at h55
 have hok:=Nt.look_okn he
 have hno:=(Nt.lookE_ok he).1
 obtain ⟨m,hm⟩:∃ m,n.look blanks []=m:=⟨_,rfl⟩
 have hR:n.afterR blanks steps=if steps.length > 60 then (3,0,0) else m.afterL steps 0 0:=by unfold Nt.afterR;rw [if_pos he,hm]
 rw [hm] at h55 hok
 have h7:=hok.t7
 refine mk Try.func20 Try.call20 rfl rfl ?_
 refine ⟨_,rfl,_,h55,?_⟩
 refine ⟨fun h=>absurd h (by decide),fun _=>?_⟩
 refine ⟨fun h1=>?_,fun h1=>?_⟩
 ·have h1:=of_decide_eq_true h1
  rw [hsl] at h1
  rw [if_pos (by omega)] at hR
  rw [hR,afterD_bad (by decide)]
  rfl
 have h1:=of_decide_eq_false h1
 rw [hsl] at h1
 rw [if_neg (by omega)] at hR
 have htl:((m.tanks.map Tk.enc).length:Int)=m.tanks.length:=by simp
 refine ⟨[6,8,10,31,32,33],3,[],fun σ=>∃ i f b:Nat,i≤steps.length∧n.afterR blanks steps=m.afterL (steps.drop i) f b∧f<2^7∧b<2^7 ∧
  σ=⟨[(6,.loc 1 0),(8,.ro m.enc),(10,.loc 2 0),(31,.list 2 (steps.map Vs.enc)),(32,.int .i64 (steps.map Vs.enc).length),(33,.int .i64 i)],[.flat false n.enc,.flat false [.nils,.nils],.flat false (stD f b)],.non⟩,
  fun σ=>(1000 - slotI 33 σ).toNat,rfl,⟨rfl,rfl⟩,⟨0,0,0,Nat.zero_le _,hR,by decide,by decide,rfl⟩,?_⟩
 rintro σ ⟨i,f,b,hi,hrec,hf,hb,rfl⟩
 refine ⟨fun h2=>?_,fun h2=>?_⟩
 rotate_left
 ·have h2:=of_decide_eq_false h2
  rw [hsl] at h2
  rw [List.drop_of_length_le (by omega)] at hrec
  rw [hrec]
  refine Or.inl ⟨by kernel_rfl,?_⟩
  refine ⟨_,rfl,_,den58 f (by omega),?_⟩
  refine ⟨_,rfl,_,den58 b (by omega),?_⟩
  rfl
 have h2:=of_decide_eq_true h2
 rw [hsl] at h2
 have hi':i<steps.length:=by omega
 have less:(1000 - ((i:Int)+1)).toNat<(1000 - (i:Int)).toNat:=by omega
 obtain ⟨x,hx⟩:∃ x,steps[i]'hi'=x:=⟨_,rfl⟩
 have hdrop:steps.drop i=x::steps.drop (i+1):=by rw [List.drop_eq_getElem_cons hi',hx]
 have hrow:(steps.map Vs.enc)[((i:Int)).toNat]?=some x.enc:=by simp [hi',hx]
 have hst:m.afterL (steps.drop i) f b=match offB m.tanks.length x.tank with
  | true=>(4,f,b)
  | false=>match m.stepR f b x.tank.toNat x.off with
   | (_,false)=>(2,f,b)
   | ((f',b'),true)=>m.afterL (steps.drop (i+1)) f' b':=by rw [hdrop];rfl
 have h52:=den52 [x.tank] ((m.tanks.map Tk.enc).length:Int) (by simp)
 have hany:[x.tank].any (offB ((m.tanks.map Tk.enc).length:Int))=offB m.tanks.length x.tank:=by rw [htl];simp
 rw [hany] at h52
 refine ⟨by omega,_,hrow,?_⟩
 refine Or.inl ⟨by kernel_rfl,?_⟩
 refine ⟨_,rfl,_,h52,?_⟩
 refine ⟨fun h3=>?_,fun h3=>?_⟩
 ·have h3:offB m.tanks.length x.tank=true:=h3
  rw [h3] at hst
  have hst:m.afterL (steps.drop i) f b=(4,f,b):=hst
  rw [hrec,hst,afterD_bad (by decide)]
  rfl
 have h3:offB m.tanks.length x.tank=false:=h3
 rw [h3] at hst
 have hst:m.afterL (steps.drop i) f b=match m.stepR f b x.tank.toNat x.off with
     | (_,false)=>(2,f,b)
     | ((f',b'),true)=>m.afterL (steps.drop (i+1)) f' b':=hst
 have hin:=offB_false h3
 obtain ⟨t,ht⟩:∃ t:Nat,x.tank=t:=⟨x.tank.toNat,by omega⟩
 have hx0:x.tank.toNat=t:=by omega
 rw [hx0] at hst
 have h59:=den59 m hok f b t hf hb (by omega) x.off
 have hlt:=m.stepR_lt (i:=t) (off:=x.off) hf hb (by omega)
 rw [← ht] at h59
 obtain ⟨⟨⟨f',b'⟩,is_⟩,hres⟩:∃ y,m.stepR f b t x.off=y:=⟨_,rfl⟩
 rw [hres] at h59 hst hlt
 refine ⟨_,rfl,_,h59,?_⟩
 cases is_ with
 | false =>
  refine ⟨fun _=>?_,fun h=>(by cases h)⟩
  have hst:m.afterL (steps.drop i) f b=(2,f,b):=hst
  rw [hrec,hst,afterD_bad (by decide)]
  rfl
 | true =>
  refine ⟨fun h=>(by cases h),fun _=>?_⟩
  have hst:m.afterL (steps.drop i) f b=m.afterL (steps.drop (i+1)) f' b':=hst
  refine ⟨(i:Int)+1,wrap64 (by omega) (by omega),?_⟩
  exact ⟨⟨rfl,rfl⟩,⟨i+1,f',b',hi',hrec.trans hst,hlt.1,hlt.2,rfl⟩,less⟩

end Go.Proofs.Vent

namespace Go.Proofs.Vent
open Go.V Go.Proofs

def onesE (x:Int):Int :=
 let u:=IntKind.u64
 let x1:=u.wrap (bits .and .u64 (x.fdiv (2^(min (1:Int).toNat u.bits))) 6148914691236517205+bits .and .u64 x 6148914691236517205)
 let x2:=u.wrap (bits .and .u64 (x1.fdiv (2^(min (2:Int).toNat u.bits))) 3689348814741910323+bits .and .u64 x1 3689348814741910323)
 let x3:=bits .and .u64 (u.wrap (x2.fdiv (2^(min (4:Int).toNat u.bits))+x2)) 1085102592571150095
 let x4:=u.wrap (x3+x3.fdiv (2^(min (8:Int).toNat u.bits)))
 let x5:=u.wrap (x4+x4.fdiv (2^(min (16:Int).toNat u.bits)))
 let x6:=u.wrap (x5+x5.fdiv (2^(min (32:Int).toNat u.bits)))
 bits .and .i64 (IntKind.i64.wrap x6) 127
def pop (x:Nat):Nat:=(tanksU x).length
theorem onesE_pop:∀ x:Nat,x<128→onesE x=(pop x:Nat):=by decide +kernel

theorem den105 (x:Nat) (hx:x<128):DN 105 [.int .u64 x] (.int .i64 (pop x:Nat)):=by
 refine mk Try.func105 Try.call105 rfl rfl ?_
 refine ⟨by decide,_,rfl,?_⟩
 refine ⟨_,rfl,?_⟩
 refine ⟨_,rfl,?_⟩
 refine ⟨_,rfl,?_⟩
 refine ⟨by decide,_,rfl,?_⟩
 refine ⟨_,rfl,?_⟩
 refine ⟨_,rfl,?_⟩
 refine ⟨_,rfl,?_⟩
 refine ⟨by decide,_,rfl,?_⟩
 refine ⟨_,rfl,?_⟩
 refine ⟨_,rfl,?_⟩
 refine ⟨by decide,_,rfl,?_⟩
 refine ⟨_,rfl,?_⟩
 refine ⟨by decide,_,rfl,?_⟩
 refine ⟨_,rfl,?_⟩
 refine ⟨by decide,_,rfl,?_⟩
 refine ⟨_,rfl,?_⟩
 refine ⟨_,rfl,?_⟩
 refine ⟨_,rfl,?_⟩
 exact congrArg (fun v=>some (D.int .i64 v)) (onesE_pop x hx)
theorem den97 (x:Nat) (hx:x<128):DN 97 [.int .u64 x] (.int .i64 (pop x:Nat)):=by
 refine mk Try.func97 Try.call97 rfl rfl ?_
 exact ⟨_,rfl,_,den105 x hx,rfl⟩

def revK (l:List Vs) (k:Nat):List Vs:=(List.range l.length).map fun j=>(l[if j<k∨l.length≤j+k then l.length - 1 - j else j]?).getD ⟨0,false⟩
theorem revK_len (l:List Vs) (k:Nat):(revK l k).length=l.length:=by simp [revK]
theorem revK_get {l:List Vs} {k j:Nat} (hj:j<l.length):(revK l k)[j]?=l[if j<k∨l.length≤j+k then l.length - 1 - j else j]?:=by
 unfold revK
 rw [List.getElem?_map,List.getElem?_range hj]
 simp only [Option.map_some]
 have:(if j<k∨l.length≤j+k then l.length - 1 - j else j)<l.length:=by split <;> omega
 rw [List.getElem?_eq_getElem this]
 rfl
theorem revK_zero (l:List Vs):revK l 0=l:=by
 apply List.ext_getElem?
 intro j
 by_cases hj:j<l.length
 ·rw [revK_get hj,if_neg (by omega)]
 ·rw [List.getElem?_eq_none (by rw [revK_len];omega),List.getElem?_eq_none (by omega)]
theorem revK_end {l:List Vs} {k:Nat} (h:l.length≤2*k+1):revK l k=l.reverse:=by
 apply List.ext_getElem?
 intro j
 by_cases hj:j<l.length
 ·rw [revK_get hj,List.getElem?_reverse hj]
  by_cases hc:j<k∨l.length≤j+k
  ·rw [if_pos hc]
  ·rw [if_neg hc];congr 1;omega
 ·rw [List.getElem?_eq_none (by rw [revK_len];omega),List.getElem?_eq_none (by rw [List.length_reverse];omega)]
theorem revK_step {l:List Vs} {k:Nat} (h:2*k+1<l.length) {a b:Vs} (ha:l[l.length - 1 - k]?=some a) (hb:l[k]?=some b):((revK l k).set k a).set (l.length - 1 - k) b=revK l (k+1):=by
 apply List.ext_getElem?
 intro j
 by_cases hj:j<l.length
 ·rw [revK_get hj,List.getElem?_set,List.getElem?_set]
  simp only [List.length_set,revK_len]
  by_cases e1:l.length - 1 - k=j
  ·subst e1
   rw [if_pos rfl,if_pos (by omega),if_pos (by omega),← hb]
   congr 1
   omega
  ·rw [if_neg e1]
   by_cases e2:k=j
   ·subst e2
    rw [if_pos rfl,if_pos (by omega),if_pos (by omega),← ha]
   ·rw [if_neg e2,revK_get hj]
    congr 1
    by_cases hc:j<k∨l.length≤j+k
    ·rw [if_pos hc,if_pos (by omega)]
    ·rw [if_neg hc,if_neg (by omega)]
 ·rw [List.getElem?_eq_none (by simp [revK_len];omega),List.getElem?_eq_none (by rw [revK_len];omega)]

def revQ (g:Nat) (l:List Vs) (d:D) (bs:List Box) (y:Yst):Prop:=d=.tup []∧bs=[.rows false g 2 (l.reverse.map Vs.enc)]∧y=.non

set_option maxHeartbeats 4000000 in
theorem denY95 (g:Nat) (l:List Vs) (hl:l.length<1000000):DenY Try.prog 95 [.sl 0 g 0 (l.map Vs.enc).length] [.rows false g 2 (l.map Vs.enc)] .non (revQ g l):=by
 refine mkY Try.func95 Try.call95 rfl rfl ?_
 have hll:((l.map Vs.enc).length:Int)=l.length:=by simp
 refine ⟨_,wrap64 (by omega) (by omega),?_⟩
 refine ⟨[0,2,3],1,[],fun σ=>∃ (k:Nat) (m:Int),2*k≤l.length+1∧m=(l.map Vs.enc).length - 1 - (k:Int) ∧
  σ=⟨[(0,.sl 0 g 0 (l.map Vs.enc).length),(2,.int .i64 k),(3,.int .i64 m)],[.rows false g 2 ((revK l k).map Vs.enc)],.non⟩,
  fun σ=>(1000000 - slotI 2 σ).toNat,rfl,⟨rfl,rfl⟩,⟨0,_,by omega,(Int.sub_zero _).symm,by rw [revK_zero];rfl⟩,?_⟩
 rintro σ ⟨k,m,hk,hm,rfl⟩
 refine ⟨fun h1=>?_,fun h1=>?_⟩
 rotate_left
 ·have h1:=of_decide_eq_false h1
  refine ⟨_,rfl,rfl,?_,rfl⟩
  show [Box.rows false g 2 ((revK l k).map Vs.enc)]=_
  rw [revK_end (by omega)]
 have h1:=of_decide_eq_true h1
 have hk2:2*k+1<l.length:=by omega
 have less:(1000000 - ((k:Int)+1)).toNat<(1000000 - (k:Int)).toNat:=by omega
 obtain ⟨a,ha⟩:∃ a,l[l.length - 1 - k]?=some a:=⟨_,List.getElem?_eq_getElem (by omega)⟩
 obtain ⟨b,hb⟩:∃ b,l[k]?=some b:=⟨_,List.getElem?_eq_getElem (by omega)⟩
 have hra:((revK l k).map Vs.enc)[l.length - 1 - k]?=some a.enc:=by
  rw [List.getElem?_map,revK_get (by omega),if_neg (by omega),ha];rfl
 have hrb:((revK l k).map Vs.enc)[k]?=some b.enc:=by
  rw [List.getElem?_map,revK_get (by omega),if_neg (by omega),hb];rfl
 have hn:m.toNat=l.length - 1 - k:=by omega
 refine Or.inr (Or.inl ⟨13,[2,3],by kernel_rfl,?_⟩)
 refine iff' (by rw [beq_self];rfl) ⟨by omega,by omega,l.length - 1 - k,by rw [hn];exact Nat.zero_add _,?_⟩
 refine iff' (beq_self g) ⟨_,hra,?_⟩
 refine iff' (by rw [beq_self];rfl) ⟨by omega,by omega,k,Nat.zero_add k,?_⟩
 refine iff' (beq_self g) ⟨_,hrb,?_⟩
 refine iff' (by rw [beq_self];rfl) ⟨by omega,by omega,k,Nat.zero_add k,?_⟩
 refine iff' (by rw [beq_self];rfl) ⟨_,hrb,Nat.le_refl 2,_,rfl,?_⟩
 refine ⟨⟨rfl,rfl,trivial⟩,?_⟩
 refine iff' (by rw [beq_self];rfl) ⟨by omega,by omega,l.length - 1 - k,by rw [hn];exact Nat.zero_add _,?_⟩
 refine ⟨trivial,?_⟩
 have hra2:(((revK l k).map Vs.enc).set k a.enc)[l.length - 1 - k]?=some a.enc:=by rw [List.getElem?_set,if_neg (by omega),hra]
 refine iff' (by rw [beq_self];rfl) ⟨_,hra2,Nat.le_refl 2,_,rfl,?_⟩
 refine ⟨trivial,?_⟩
 refine ⟨(k:Int)+1,wrap64 (by omega) (by omega),?_⟩
 refine ⟨m - 1,wrap64 (by omega) (by omega),?_⟩
 refine ⟨⟨rfl,rfl⟩,⟨k+1,m - 1,by omega,by omega,?_⟩,less⟩
 rw [← revK_step hk2 ha hb,List.map_set,List.map_set]
 rfl

end Go.Proofs.Vent

namespace Go.Proofs.Vent
open Go.V Go.Proofs

structure En where
 f:Nat
 b:Nat
 pf:Nat
 pb:Nat
 tank:Nat
 off:Bool
def En.key (e:En):D:=.agg (stD e.f e.b)
def En.val (e:En):D:=.agg [.int .u64 e.pf,.int .u64 e.pb,.int .i64 e.tank,.bool e.off]
def root:En:=⟨0,0,0,0,0,false⟩

def idx:List En→Nat→Nat→Option Nat
 | [],_,_=>none
 | e::r,f,b=>if e.f=f∧e.b=b then some 0 else (idx r f b).map (·+1)
theorem idx_get:∀ {K:List En} {f b i:Nat},idx K f b=some i→∃ e,K[i]?=some e∧e.f=f∧e.b=b
 | [],f,b,i,h=>by cases h
 | e::r,f,b,i,h=>by
  unfold idx at h
  split at h
  ·rename_i hc
   cases h
   exact ⟨e,rfl,hc⟩
  ·cases hr:idx r f b with
   | none=>rw [hr] at h;cases h
   | some j =>
    rw [hr] at h
    cases h
    obtain ⟨e',h1,h2⟩:=idx_get hr
    exact ⟨e',by simpa using h1,h2⟩
theorem idx_none:∀ {K:List En} {f b:Nat},idx K f b=none→∀ e∈K,¬ (e.f=f∧e.b=b)
 | [],f,b,_,e,he=>by cases he
 | x::r,f,b,h,e,he=>by
  unfold idx at h
  split at h
  ·cases h
  ·rename_i hc
   cases hr:idx r f b with
   | none =>
    rcases List.mem_cons.1 he with rfl | he
    ·exact hc
    ·exact idx_none hr e he
   | some j=>rw [hr] at h;cases h
theorem idx_some_of:∀ {K:List En} {f b:Nat} {e:En},e∈K→e.f=f→e.b=b→∃ i,idx K f b=some i
 | [],_,_,_,he,_,_=>by cases he
 | x::r,f,b,e,he,h1,h2=>by
  unfold idx
  split
  ·exact ⟨0,rfl⟩
  ·rename_i hc
   rcases List.mem_cons.1 he with rfl | he
   ·exact absurd ⟨h1,h2⟩ hc
   ·obtain ⟨i,hi⟩:=idx_some_of he h1 h2
    exact ⟨i+1,by rw [hi];rfl⟩
theorem eqKD_st (f b f' b':Nat):eqKD (.agg (stD f b)) (.agg (stD f' b'))=some (decide (f'=f∧b'=b)):=by
 show (some (((f:Int)==f') && (((b:Int)==b') && true)):Option Bool)=_
 congr 1
 apply Bool.eq_iff_iff.2
 simp
 omega
theorem findK_st (f b:Nat):∀ K:List En,findK (.agg (stD f b)) (K.map En.key)=some (idx K f b)
 | []=>rfl
 | e::r=>by
  have ih:=findK_st f b r
  simp only [List.map_cons,findK,idx]
  unfold En.key
  rw [eqKD_st]
  by_cases h:e.f=f∧e.b=b
  ·rw [if_pos h];simp [h]
  ·rw [if_neg h,decide_eq_false h]
   simp only
   have ih':findK (.agg (stD f b)) (r.map fun e=>.agg (stD e.f e.b))=some (idx r f b):=ih
   rw [ih']
   cases idx r f b <;> rfl

def NetL.grow1 (n:NetL) (blowers:Int) (e:En) (i:Nat) (K:List En):List En :=
 match n.stepR e.f e.b i (e.b.testBit i) with
 | (_,false)=>K
 | ((f',b'),true)=>if (idx K f' b').isSome=false∧((pop b':Nat):Int)≤blowers then K++[⟨f',b',e.f,e.b,i,e.b.testBit i⟩] else K
def NetL.growF (n:NetL) (blowers:Int) (e:En):Nat→Nat→List En→List En
 | 0,_,K=>K
 | r+1,i,K=>n.growF blowers e r (i+1) (n.grow1 blowers e i K)
def pathF (K:List En):Nat→Nat→Nat→List Vs
 | 0,_,_=>[]
 | r+1,f,b=>if f=0∧b=0 then [] else match idx K f b with
  | none=>[]
  | some i=>match K[i]? with
   | none=>[]
   | some e=>⟨(e.tank:Nat),e.off⟩::pathF K r e.pf e.pb
def NetL.goal (n:NetL) (e:En):Bool:=e.b==0 && (e.f &&& n.wanted==n.wanted)
def NetL.planF (n:NetL) (blowers:Int):Nat→Nat→List En→Option (List Vs)
 | 0,_,_=>none
 | r+1,h,K=>match K[h]? with
  | none=>none
  | some e=>match n.goal e with
   | true=>some (pathF K 20000 e.f e.b).reverse
   | false=>n.planF blowers r (h+1) (n.growF blowers e n.tanks.length 0 K)
def NetL.plan (n:NetL) (blowers:Int):Option (List Vs):=n.planF blowers 20000 0 [root]

structure Known (K:List En):Prop where
 ne:K[0]?=some root
 lt:∀ e∈K,e.f<2^7∧e.b<2^7
 par:∀ (i:Nat) (e:En),K[i]?=some e→0<i→∃ j,idx K e.pf e.pb=some j∧j<i
 one:∀ (i j:Nat) (d e:En),K[i]?=some d→K[j]?=some e→d.f=e.f→d.b=e.b→i=j

theorem idx_at {K:List En} (h:Known K) {i:Nat} {e:En} (he:K[i]?=some e):idx K e.f e.b=some i:=by
 obtain ⟨j,hj⟩:=idx_some_of (List.mem_of_getElem? he) rfl rfl
 obtain ⟨d,h1,h2,h3⟩:=idx_get hj
 rw [hj,h.one j i d e h1 he h2 h3]

theorem idx_app {K:List En} {f b i:Nat} (L:List En) (h:idx K f b=some i):idx (K++L) f b=some i:=by
 induction K generalizing i with
 | nil=>cases h
 | cons e r ih =>
  simp only [List.cons_append]
  unfold idx at h ⊢
  split
  ·rename_i hc;rw [if_pos hc] at h;exact h
  ·rename_i hc
   rw [if_neg hc] at h
   cases hr:idx r f b with
   | none=>rw [hr] at h;cases h
   | some j=>rw [hr] at h;rw [ih hr];exact h

theorem Known.root:Known [root]:=by
 refine ⟨rfl,fun e he=>?_,fun i e he hi=>?_,fun i j d e hd he _ _=>?_⟩
 ·rw [List.mem_singleton.1 he];decide
 ·match i,he with
  | 0,_=>omega
  | i+1,he=>simp at he
 ·match i,j,hd,he with
  | 0,0,_,_=>rfl
  | i+1,_,hd,_=>simp at hd
  | 0,j+1,_,he=>simp at he

theorem Known.snoc {K:List En} (h:Known K) {e:En} (hf:e.f<2^7) (hb:e.b<2^7) (hn:idx K e.f e.b=none) {j:Nat} (hp:idx K e.pf e.pb=some j):Known (K++[e]):=by
 have hlen:0<K.length:=(List.getElem?_eq_some_iff.1 h.ne).1
 have hj:j<K.length:=by obtain ⟨d,h1,_⟩:=idx_get hp;exact (List.getElem?_eq_some_iff.1 h1).1
 have get:∀ (i:Nat) (d:En),(K++[e])[i]?=some d→(i<K.length∧K[i]?=some d)∨(i=K.length∧d=e):=by
  intro i d hd
  by_cases hi:i<K.length
  ·rw [List.getElem?_append_left hi] at hd;exact .inl ⟨hi,hd⟩
  ·rw [List.getElem?_append_right (by omega)] at hd
   by_cases e0:i - K.length=0
   ·rw [e0] at hd
    simp at hd
    exact .inr ⟨by omega,hd.symm⟩
   ·rw [List.getElem?_eq_none (by simp;omega)] at hd
    cases hd
 refine ⟨by rw [List.getElem?_append_left hlen];exact h.ne,fun d hd=>?_,fun i d hd hi=>?_,fun i k d d' hd hd' h1 h2=>?_⟩
 ·rcases List.mem_append.1 hd with hd | hd
  ·exact h.lt d hd
  ·rw [List.mem_singleton.1 hd];exact ⟨hf,hb⟩
 ·rcases get i d hd with ⟨h1,h2⟩ | ⟨h1,h2⟩
  ·obtain ⟨k,h3,h4⟩:=h.par i d h2 hi
   exact ⟨k,idx_app _ h3,h4⟩
  ·subst h2
   exact ⟨j,idx_app _ hp,by omega⟩
 ·rcases get i d hd with ⟨h3,h4⟩ | ⟨h3,rfl⟩
  ·rcases get k d' hd' with ⟨h5,h6⟩ | ⟨h5,rfl⟩
   ·exact h.one i k d d' h4 h6 h1 h2
   ·exact absurd ⟨h1,h2⟩ (idx_none hn d (List.mem_of_getElem? h4))
  ·rcases get k d' hd' with ⟨h5,h6⟩ | ⟨h5,rfl⟩
   ·exact absurd ⟨h1.symm,h2.symm⟩ (idx_none hn d' (List.mem_of_getElem? h6))
   ·omega

theorem Known.grow1 {n:NetL} {K:List En} (h:Known K) {blowers:Int} {e:En} (he:∃ j,idx K e.f e.b=some j) (hf:e.f<2^7) (hb:e.b<2^7) {i:Nat} (hi:i<7):Known (n.grow1 blowers e i K):=by
 unfold NetL.grow1
 have hlt:=n.stepR_lt (i:=i) (off:=e.b.testBit i) hf hb hi
 obtain ⟨⟨⟨f',b'⟩,is_⟩,hres⟩:∃ y,n.stepR e.f e.b i (e.b.testBit i)=y:=⟨_,rfl⟩
 rw [hres] at hlt ⊢
 cases is_ with
 | false=>exact h
 | true =>
  simp only
  split
  ·rename_i hc
   obtain ⟨j,hj⟩:=he
   refine h.snoc hlt.1 hlt.2 ?_ hj
   cases hx:idx K f' b' with
   | none=>rfl
   | some x=>rw [hx] at hc;exact absurd hc.1 (by simp)
  ·exact h
theorem grow1_app (n:NetL) (blowers:Int) (e:En) (i:Nat) (K:List En):∃ L,n.grow1 blowers e i K=K++L:=by
 unfold NetL.grow1
 split
 ·exact ⟨[],by simp⟩
 ·split
  ·exact ⟨_,rfl⟩
  ·exact ⟨[],by simp⟩
theorem growF_app (n:NetL) (blowers:Int) (e:En):∀ (r i:Nat) (K:List En),∃ L,n.growF blowers e r i K=K++L
 | 0,_,K=>⟨[],by simp [NetL.growF]⟩
 | r+1,i,K=>by
  obtain ⟨L,hL⟩:=grow1_app n blowers e i K
  obtain ⟨M,hM⟩:=growF_app n blowers e r (i+1) (K++L)
  refine ⟨L++M,?_⟩
  unfold NetL.growF
  rw [hL,hM,List.append_assoc]

theorem nodup_le:∀ (N:Nat) (l:List Nat),l.Nodup→(∀ x∈l,x<N)→l.length≤N
 | 0,l,_,h=>by
  cases l with
  | nil=>exact Nat.le_refl _
  | cons a l=>exact absurd (h a (by simp)) (by omega)
 | N+1,l,hnd,h=>by
  by_cases hN:N∈l
  · have:=nodup_le N (l.erase N) (hnd.erase N) fun x hx=>by
      have h1:=h x (List.mem_of_mem_erase hx)
      have:x≠N:=fun e=>by subst e;exact hnd.not_mem_erase hx
      omega
    rw [List.length_erase_of_mem hN] at this
    omega
  · have:=nodup_le N l hnd fun x hx=>by
      have h1:=h x hx
      have:x≠N:=fun e=>by subst e;exact hN hx
      omega
    omega
theorem Known.len {K:List En} (h:Known K):K.length≤16384:=by
 have h1:(K.map fun e=>e.f*128+e.b).Nodup:=by
  unfold List.Nodup
  rw [List.pairwise_iff_getElem]
  intro i j hi hj hij e
  rw [List.length_map] at hi hj
  rw [List.getElem_map,List.getElem_map] at e
  have l1:=h.lt _ (List.getElem_mem hi)
  have l2:=h.lt _ (List.getElem_mem hj)
  have:=h.one i j _ _ (List.getElem?_eq_getElem hi) (List.getElem?_eq_getElem hj) (by omega) (by omega)
  omega
 have:=nodup_le 16384 _ h1 fun x hx=>by
  obtain ⟨e,he,rfl⟩:=List.mem_map.1 hx
  have:=h.lt e he
  omega
 simpa using this

end Go.Proofs.Vent

namespace Go.Proofs.Vent
open Go.V Go.Proofs

def stRow (e:En):List D:=stD e.f e.b
def vals:List En→List D
 | []=>[]
 | _::r=>.agg [.int .u64 0,.int .u64 0,.int .i64 0,.ff]::r.map En.val
theorem vals_get:∀ {K:List En} {i:Nat},0<i→(vals K)[i]?=(K[i]?).map En.val
 | [],_,_=>rfl
 | _::r,i+1,_=>by show (r.map En.val)[i]?=_;rw [List.getElem?_map];rfl
theorem vals_any {K:List En} {i:Nat} {d:En} (h:K[i]?=some d):∃ v1 v2 v3 v4,(vals K)[i]?=some (.agg [v1,v2,v3,v4]):=by
 cases K with
 | nil=>cases h
 | cons a r=>cases i with
  | zero=>exact ⟨_,_,_,_,rfl⟩
  | succ i=>exact ⟨_,_,_,_,(vals_get (by omega)).trans (by rw [h];rfl)⟩
theorem vals_snoc {K:List En} {a:En} (h:K[0]?=some a) (e:En):vals (K++[e])=vals K++[e.val]:=by
 cases K with
 | nil=>cases h
 | cons a r=>show _::(r++[e]).map En.val=_;rw [List.map_append];rfl
abbrev planBs (bl:Int) (K:List En) (g:Nat) (rs:List (List D)) (off len:Nat):List Box :=
 [.flat false [.int .i64 bl],.map false (K.map En.key) (vals K),.flat false [.mloc 1],.rows false g 2 rs,.flat false [.sl 3 g off len]]
def headOf (σ:St):Nat:=match σ.boxes[(1:Nat)]?,σ.boxes[(4:Nat)]? with
 | some (.map _ ks _),some (.flat _ [.sl _ _ _ len])=>ks.length - len
 | _,_=>0
def planR (x:Option (List Vs)):D:=match x with
 | none=>.tup [.list 2 [],.bool false]
 | some l=>.tup [.list 2 (l.map Vs.enc),.bool true]

def lenAt4 (σ:St):Nat:=match Go.V.look σ.tmps 4 with
 | some (.sl _ _ _ len)=>len
 | _=>0

def NetL.growS (n:NetL) (bl:Int) (e:En):Nat→Nat→Nat→List En→List En
 | 0,_,_,K=>K
 | _+1,_,0,K=>K
 | r+1,i,j+1,K=>match (n.stepR e.f e.b i (e.b.testBit i)).2 with
  | true=>n.growS bl e r (i+1) j (n.grow1 bl e i K)
  | false=>n.growS bl e r (i+1) (j+1) K
theorem growS_all (n:NetL) (bl:Int) (e:En):∀ (r i:Nat) (K:List En),n.growS bl e r i (n.stepsF e.f e.b r i).length K=n.growF bl e r i K
 | 0,_,_=>rfl
 | r+1,i,K=>by
  unfold NetL.growF
  unfold NetL.stepsF
  cases hs:(n.stepR e.f e.b i (e.b.testBit i)).2 with
  | true =>
   simp only [List.length_cons]
   conv=>lhs;unfold NetL.growS
   rw [hs]
   exact growS_all n bl e r (i+1) _
  | false =>
   simp only
   have h1:n.grow1 bl e i K=K:=by
    unfold NetL.grow1
    obtain ⟨⟨⟨f',b'⟩,is_⟩,hres⟩:∃ y,n.stepR e.f e.b i (e.b.testBit i)=y:=⟨_,rfl⟩
    rw [hres] at hs ⊢
    have hs:is_=false:=hs
    subst hs
    rfl
   rw [h1,← growS_all n bl e r (i+1) K]
   cases hl:(n.stepsF e.f e.b r (i+1)).length with
   | zero =>
    cases r with
    | zero=>rfl
    | succ r=>rfl
   | succ j => conv => lhs; unfold NetL.growS
               rw [hs]
theorem growS_step (n:NetL) (bl:Int) (e:En):∀ (r i j:Nat) (K:List En) (x:List D),(n.stepsF e.f e.b r i)[j]?=some x →
    ∃ k f' b',k<i+r∧i≤k∧n.stepR e.f e.b k (e.b.testBit k)=((f',b'),true)∧x=[.agg [.int .i64 k,.bool (e.b.testBit k)],.agg (stD f' b')]∧n.growS bl e r i (j+1) K=n.grow1 bl e k (n.growS bl e r i j K)
  | 0,i,j,K,x,h=>by simp [NetL.stepsF] at h
  | r+1,i,j,K,x,h=>by
   unfold NetL.stepsF at h
   cases hs:(n.stepR e.f e.b i (e.b.testBit i)).2 with
   | true =>
    rw [hs] at h
    cases j with
    | zero =>
     simp at h
     subst h
     obtain ⟨⟨⟨f',b'⟩,is_⟩,hres⟩:∃ y,n.stepR e.f e.b i (e.b.testBit i)=y:=⟨_,rfl⟩
     have hs':is_=true:=by rw [hres] at hs;exact hs
     subst hs'
     refine ⟨i,f',b',by omega,Nat.le_refl _,hres,by rw [hres],?_⟩
     have h0:∀ (r i:Nat) (K:List En),n.growS bl e r i 0 K=K:=fun r i K=>by cases r <;> rfl
     rw [h0]
     conv=>lhs;unfold NetL.growS
     rw [hs]
     exact h0 _ _ _
    | succ j =>
     obtain ⟨k,f',b',h1,h2,h3,h4,h5⟩:=growS_step n bl e r (i+1) j (n.grow1 bl e i K) x (by simpa using h)
     refine ⟨k,f',b',by omega,by omega,h3,h4,?_⟩
     conv=>lhs;unfold NetL.growS
     conv=>rhs;unfold NetL.growS
     rw [hs]
     exact h5
   | false =>
    rw [hs] at h
    obtain ⟨k,f',b',h1,h2,h3,h4,h5⟩:=growS_step n bl e r (i+1) j K x h
    refine ⟨k,f',b',by omega,by omega,h3,h4,?_⟩
    conv=>lhs;unfold NetL.growS
    rw [hs]
    cases j with
    | zero =>
     have h0:∀ (r i:Nat) (K:List En),n.growS bl e r i 0 K=K:=fun r i K=>by cases r <;> rfl
     rw [h0] at h5 ⊢
     exact h5
    | succ j =>
     conv=>rhs;unfold NetL.growS
     rw [hs]
     exact h5
theorem growS_zero (n:NetL) (bl:Int) (e:En) (r i:Nat) (K:List En):n.growS bl e r i 0 K=K:=by cases r <;> rfl
theorem growS_app (n:NetL) (bl:Int) (e:En):∀ (r i j:Nat) (K:List En),∃ L,n.growS bl e r i j K=K++L
 | 0,_,_,K=>⟨[],by simp [NetL.growS]⟩
 | r+1,i,0,K=>⟨[],by simp [NetL.growS]⟩
 | r+1,i,j+1,K=>by
  unfold NetL.growS
  split
  ·obtain ⟨L,hL⟩:=grow1_app n bl e i K
   obtain ⟨M,hM⟩:=growS_app n bl e r (i+1) j (K++L)
   exact ⟨L++M,by rw [hL,hM,List.append_assoc]⟩
  ·exact growS_app n bl e r (i+1) (j+1) K

theorem drop_rows {K:List En} {pre:List (List D)} {off hd:Nat} (ho:off=pre.length):(pre++(K.drop hd).map stRow).drop off=(K.drop hd).map stRow:=by
 subst ho
 rw [List.drop_append_of_le_length (Nat.le_refl _),List.drop_length,List.nil_append]
theorem take_rows {K:List En} {pre:List (List D)} {off hd:Nat} (ho:off=pre.length):(pre++(K.drop hd).map stRow).take off=pre:=by
 subst ho
 rw [List.take_append_of_le_length (Nat.le_refl _),List.take_length]

set_option maxHeartbeats 16000000 in
theorem den78 (n:NetL) (h:n.Ok) (bl:Int):DN 78 [.ro n.enc,.int .i64 bl] (planR (n.plan bl)):=by
 have hw7:=h.w
 have h7:=h.t7
 refine mkW Try.func78 Try.call78 rfl rfl ?_
 refine ⟨none,rfl,_,_,⟨rfl,rfl⟩,?_⟩
 refine ⟨[0,3,4,6,7],5,[],fun σ=>∃ (hd r g off len:Nat) (K:List En) (pre:List (List D)),off=pre.length∧len=K.length - hd∧Known K∧hd≤K.length∧16384<r+hd∧n.plan bl=n.planF bl r hd K ∧
  σ=⟨[(0,.ro n.enc),(3,.loc 0 0),(4,.nils),(6,.loc 2 0),(7,.loc 4 0)],planBs bl K g (pre++(K.drop hd).map stRow) off len,.non⟩,
  fun σ=>20000 - headOf σ,rfl,⟨rfl,rfl⟩,⟨0,20000,0,0,1,[root],[],rfl,rfl,Known.root,Nat.zero_le _,by decide,rfl,rfl⟩,?_⟩
 rintro σ ⟨hd,r,g,off,len,K,pre,hoff,hlen,hK,hle,hr,hrec,rfl⟩
 have hmany:=hK.len
 refine ⟨fun h1=>?_,fun h1=>?_⟩
 rotate_left
 ·have h1:¬ ((len:Nat):Int) > 0:=of_decide_eq_false h1
  have e:K[hd]?=none:=List.getElem?_eq_none (by omega)
  have hn:n.plan bl=none:=by
   rw [hrec]
   cases r with
   | zero=>rfl
   | succ r=>unfold NetL.planF;rw [e]
  rw [hn]
  exact ⟨_,rfl,.tcons (.nil 0 2) (.refl _)⟩
 have h1:((len:Nat):Int) > 0:=of_decide_eq_true h1
 have hhd:hd<K.length:=by omega
 obtain ⟨r,rfl⟩:∃ q,r=q+1:=⟨r - 1,by omega⟩
 obtain ⟨e,he⟩:∃ e,K[hd]?=some e:=⟨_,List.getElem?_eq_getElem hhd⟩
 have hdrop:K.drop hd=e::K.drop (hd+1):=by
  rw [List.drop_eq_getElem_cons hhd]
  rw [List.getElem?_eq_getElem hhd] at he
  cases he
  rfl
 have hst:n.planF bl (r+1) hd K=match n.goal e with
     | true=>some (pathF K 20000 e.f e.b).reverse
     | false=>n.planF bl r (hd+1) (n.growF bl e n.tanks.length 0 K):=by
   conv=>lhs;unfold NetL.planF
   rw [he]
   try rfl
 have helt:=hK.lt e (List.mem_of_getElem? he)
 have hidx:=idx_at hK he
 have hrow:(pre++(K.drop hd).map stRow)[off]?=some (stD e.f e.b):=by
  rw [hoff,List.getElem?_append_right (Nat.le_refl _),Nat.sub_self,hdrop]
  rfl
 obtain ⟨ef,hef⟩:∃ ef,e.f=ef:=⟨_,rfl⟩
 obtain ⟨eb,heb⟩:∃ eb,e.b=eb:=⟨_,rfl⟩
 rw [hef,heb] at helt hrow hidx hst
 refine iff' (by rw [beq_self];rfl) ⟨by decide,by omega,off,Nat.add_zero _,?_⟩
 refine iff' (beq_self g) ⟨_,hrow,?_⟩
 refine iff' (by rw [beq_self];rfl) ⟨⟨by decide,by omega⟩,?_⟩
 -- on with the steps that can be done
 have hnext:n.goal e=false→True:=fun _=>trivial
 refine Or.inl ⟨by kernel_rfl,?_⟩
 refine ⟨fun h2=>?_,fun h2=>?_⟩
 ·have h2:((eb:Int)==0)=true:=h2
  have h2:eb=0:=by simpa using h2
  refine ⟨_,bits_and (by omega) (by omega),?_⟩
  refine ⟨fun h3=>?_,fun h3=>?_⟩
  ·have h3:(((ef &&& n.wanted:Nat):Int)==n.wanted)=true:=h3
   have h3:ef &&& n.wanted=n.wanted:=by simp at h3;omega
   have hg:n.goal e=true:=by unfold NetL.goal;rw [hef,heb,h2,h3];simp
   rw [hg] at hst
   have hfin:n.plan bl=some (pathF K 20000 ef eb).reverse:=hrec.trans hst
   rw [hfin]
   refine ⟨[4,6,8],6,[(.slot 4,2)],fun σ=>∃ (f b q i g2:Nat) (acc:List Vs),idx K f b=some i∧i<q∧acc.length+i≤16384∧pathF K 20000 ef eb=acc++pathF K q f b ∧
    σ=⟨[(4,.sl 6 g2 0 (acc.map Vs.enc).length),(6,.loc 2 0),(8,.loc 5 0)],
     [.flat false [.int .i64 bl],.map false (K.map En.key) (vals K),.flat false [.mloc 1],.rows false g 2 (pre++(K.drop hd).map stRow),.flat false [.sl 3 g (off+1) (len - 1)],.flat false (stD f b),.rows false g2 2 (acc.map Vs.enc)],.non⟩,
    fun σ=>20000 - lenAt4 σ,rfl,⟨rfl,rfl⟩,⟨ef,eb,20000,hd,0,[],hidx,by omega,by simp;omega,rfl,rfl⟩,?_⟩
   rintro σ ⟨f,b,q,i,g2,acc,hix,hq,hal,hpath,rfl⟩
   obtain ⟨q,rfl⟩:∃ z,q=z+1:=⟨q - 1,by omega⟩
   have hacc:((acc.map Vs.enc).length:Nat)=acc.length:=by simp
   refine ⟨fun h4=>?_,fun h4=>?_⟩
   ·have h4:(!((f:Int)==0 && ((b:Int)==0 && true)))=true:=h4
    have h4:¬ (f=0∧b=0):=by simp at h4;omega
    obtain ⟨d,hd1,hd2,hd3⟩:=idx_get hix
    have hi0:0<i:=by
     rcases Nat.eq_zero_or_pos i with e0 | e0
     ·subst e0
      rw [hK.ne] at hd1
      cases hd1
      exact absurd ⟨hd2.symm,hd3.symm⟩ h4
     ·exact e0
    obtain ⟨j,hj1,hj2⟩:=hK.par i d hd1 hi0
    obtain ⟨df,db,pf,pb,tk,of_⟩:=d
    have hval:(vals K)[i]?=some (.agg [.int .u64 pf,.int .u64 pb,.int .i64 tk,.bool of_]):=by rw [vals_get (by omega),hd1];rfl
    have hfind:findK (.agg [.int .u64 f,.int .u64 b]) (K.map En.key)=some (some i):=(findK_st f b K).trans (congrArg some hix)
    have hp2:pathF K (q+1) f b=⟨(tk:Nat),of_⟩::pathF K q pf pb:=by
     conv=>lhs;unfold pathF
     rw [if_neg h4,hix]
     dsimp only
     rw [hd1]
    have hj1:idx K pf pb=some j:=hj1
    refine ⟨some i,hfind,_,hval,?_⟩
    refine ⟨trivial,iff' (by rw [beq_self];rfl) ⟨Nat.le_of_eq (Nat.zero_add _),?_,_,old_all rfl,_,(show acc.map Vs.enc++[[D.int .i64 (tk:Nat),D.bool of_]]=(acc++[(⟨((tk:Nat):Int),of_⟩:Vs)]).map Vs.enc by simp [Vs.enc]),trivial,?_⟩⟩
    ·rw [hacc];show (_+1)*16≤mostBytes;unfold mostBytes;omega
    refine ⟨some i,hfind,_,hval,?_⟩
    refine ⟨⟨rfl,rfl⟩,⟨pf,pb,q,j,g2+1,acc++[⟨(tk:Nat),of_⟩],hj1,by omega,by simp;omega,by rw [hpath,hp2,List.append_assoc];rfl,rfl⟩,?_⟩
    show 20000 - ((acc++[(⟨((tk:Nat):Int),of_⟩:Vs)]).map Vs.enc).length<20000 - (acc.map Vs.enc).length
    simp
    omega
   ·have h4:(!((f:Int)==0 && ((b:Int)==0 && true)))=false:=h4
    have h4:f=0∧b=0:=by simp at h4;omega
    have hp2:pathF K (q+1) f b=[]:=by
     conv=>lhs;unfold pathF
     rw [if_pos h4]
    rw [hp2,List.append_nil] at hpath
    rw [hpath]
    refine Or.inr ⟨[6],[.sl 0 g2 0 (acc.map Vs.enc).length],[.rows false g2 2 (acc.map Vs.enc)],_,rfl,rfl,rfl,rfl,denY95 g2 acc (by omega),⟨_,_,_,rfl,rfl,rfl⟩,?_⟩
    rintro _ _ _ ⟨rfl,rfl,rfl⟩
    refine ⟨_,rfl,?_⟩
    exact ⟨_,reify_tup (mapO_cons (reify_sl rfl (by simp)) (mapO_cons rfl rfl)),.refl _⟩
  ·have h3:(((ef &&& n.wanted:Nat):Int)==n.wanted)=false:=h3
   have h3:¬ ef &&& n.wanted=n.wanted:=by simp at h3;omega
   have hg:n.goal e=false:=by unfold NetL.goal;rw [hef,heb,h2];simp [h3]
   rw [hg] at hst
   have hst:n.planF bl (r+1) hd K=n.planF bl r (hd+1) (n.growF bl e n.tanks.length 0 K):=hst
   refine ⟨_,rfl,_,den96 n ef eb,?_⟩
   have hxs:n.stepsF e.f e.b n.tanks.length 0=n.stepsF ef eb n.tanks.length 0:=by rw [hef,heb]
   refine ⟨rfl,_,rfl,_,it103 n h ef eb helt.1 helt.2,6,[],fun j bs y=>∃ (g2 off2 len2:Nat) (Kj:List En) (pre2:List (List D)),Kj=n.growS bl e n.tanks.length 0 j K∧off2=pre2.length∧len2=Kj.length - (hd+1)∧Known Kj∧y=.non ∧
    bs=[.flat false [.int .i64 bl],.map false (Kj.map En.key) (vals Kj),.flat false [.mloc 1],.rows false g2 2 (pre2++(Kj.drop (hd+1)).map stRow),.flat false [.sl 3 g2 off2 len2],.flat false (stD ef eb)],rfl,rfl,rfl,?_,?_,?_,?_⟩
   ·refine ⟨g,off+1,len - 1,K,pre++[stRow e],(growS_zero n bl e _ _ K).symm,by simp;omega,by omega,hK,rfl,?_⟩
    rw [List.append_assoc]
    show _=[Box.flat false [.int .i64 bl],.map false (K.map En.key) (vals K),.flat false [.mloc 1],.rows false g 2 (pre++(e::K.drop (hd+1)).map stRow),.flat false [.sl 3 g (off+1) (len - 1)],.flat false (stD ef eb)]
    rw [← hdrop]
    rfl
   ·rintro j x bs y hx ⟨g2,off2,len2,Kj,pre2,hKj,hoff2,hlen2,hKn,rfl,rfl⟩
    rw [← hxs] at hx
    obtain ⟨k,f',b',hk1,_,hsr,rfl,hgs⟩:=growS_step n bl e n.tanks.length 0 j K x hx
    have hk7:k<7:=by omega
    obtain ⟨L,hL⟩:=growS_app n bl e n.tanks.length 0 j K
    rw [← hKj] at hL hgs
    have hKl:hd+1≤Kj.length:=by rw [hL,List.length_append];omega
    have hslt:=n.stepR_lt (f:=e.f) (b:=e.b) (i:=k) (off:=e.b.testBit k) (by rw [hef];exact helt.1) (by rw [heb];exact helt.2) hk7
    rw [hsr] at hslt
    have hkl:=hKn.len
    have hg1:n.grow1 bl e k Kj=if (idx Kj f' b').isSome=false∧((pop b':Nat):Int)≤bl then Kj++[(⟨f',b',ef,eb,k,e.b.testBit k⟩:En)] else Kj:=by unfold NetL.grow1;rw [hsr,hef,heb]
    have hKn':Known (n.grow1 bl e k Kj):=hKn.grow1 (by rw [hL];exact ⟨_,idx_app _ (hef ▸ heb ▸ hidx)⟩) (by rw [hef];exact helt.1) (by rw [heb];exact helt.2) hk7
    have hfind:findK (.agg [.int .u64 f',.int .u64 b']) (Kj.map En.key)=some (idx Kj f' b'):=findK_st f' b' Kj
    obtain ⟨sb,hsb⟩:∃ s,e.b.testBit k=s:=⟨_,rfl⟩
    rw [heb] at hsb
    cases hix:idx Kj f' b' with
    | some i =>
     rw [hix] at hfind hg1
     rw [if_neg (by simp)] at hg1
     obtain ⟨d,hd1,hd2,hd3⟩:=idx_get hix
     obtain ⟨v1,v2,v3,v4,hval⟩:=vals_any hd1
     refine ⟨some i,hfind,_,_,⟨hval,rfl⟩,?_⟩
     refine Or.inl ⟨by kernel_rfl,?_⟩
     refine ⟨rfl,g2,off2,len2,Kj,pre2,by rw [hgs,hg1],hoff2,hlen2,hKn,rfl,rfl⟩
    | none =>
     rw [hix] at hfind hg1
     refine ⟨none,hfind,_,_,⟨rfl,rfl⟩,?_⟩
     refine Or.inl ⟨by kernel_rfl,?_⟩
     refine ⟨_,rfl,_,den97 b' hslt.2,?_⟩
     refine ⟨fun h4=>?_,fun h4=>?_⟩
     ·have h4:((pop b':Nat):Int)≤bl:=of_decide_eq_true h4
      rw [if_pos ⟨rfl,h4⟩] at hg1
      rw [hg1] at hgs hKn'
      refine ⟨none,hfind,_,_,⟨rfl,rfl⟩,?_⟩
      have hold:((pre2++(Kj.drop (hd+1)).map stRow).drop off2).take len2=(Kj.drop (hd+1)).map stRow:=by
       rw [drop_rows hoff2]
       exact List.take_of_length_le (by simp;omega)
      have hall:(Kj.drop (hd+1)).map stRow++[[D.int .u64 f',D.int .u64 b']]=((Kj++[(⟨f',b',ef,eb,k,e.b.testBit k⟩:En)]).drop (hd+1)).map stRow:=by
       rw [List.drop_append_of_le_length hKl,List.map_append]
       rfl
      have halll:(((Kj++[(⟨f',b',ef,eb,k,e.b.testBit k⟩:En)]).drop (hd+1)).map stRow).length=(Kj++[(⟨f',b',ef,eb,k,e.b.testBit k⟩:En)]).length - (hd+1):=by simp
      refine ⟨trivial,iff' (by rw [beq_self];rfl) ⟨by simp;omega,?_,_,hold,_,hall,offE_mk ?_,?_⟩⟩
      ·show (len2+1)*16≤mostBytes;unfold mostBytes;omega
      ·refine ⟨rfl,g2+1,off2,_,_,pre2,hgs.symm,hoff2,halll,hKn',rfl,?_⟩
       rw [take_rows hoff2,List.map_append,vals_snoc hKn.ne]
       rfl
      ·refine ⟨rfl,g2+1,0,_,_,[],hgs.symm,rfl,halll,hKn',rfl,?_⟩
       rw [List.map_append,vals_snoc hKn.ne]
       rfl
     ·have h4:¬ ((pop b':Nat):Int)≤bl:=of_decide_eq_false h4
      rw [if_neg (fun hc=>h4 hc.2)] at hg1
      refine ⟨rfl,g2,off2,len2,Kj,pre2,by rw [hgs,hg1],hoff2,hlen2,hKn,rfl,rfl⟩
   ·intro x hx
    obtain ⟨j,hj⟩:=List.mem_iff_getElem?.1 hx
    rw [← hxs] at hj
    obtain ⟨k,f',b',_,_,_,rfl,_⟩:=growS_step n bl e n.tanks.length 0 j K x hj
    exact ⟨rfl,rfl⟩
   ·rintro bs y ⟨g2,off2,len2,Kj,pre2,hKj,hoff2,hlen2,hKn,rfl,rfl⟩
    rw [← hxs,growS_all] at hKj
    obtain ⟨L,hL⟩:=growF_app n bl e n.tanks.length 0 K
    rw [← hKj] at hL
    have hKl:K.length≤Kj.length:=by rw [hL,List.length_append];omega
    refine ⟨⟨rfl,rfl⟩,⟨hd+1,r,g2,off2,len2,Kj,pre2,hoff2,hlen2,hKn,by omega,by omega,by rw [hrec,hst,hKj],rfl⟩,?_⟩
    show 20000 - ((Kj.map En.key).length - len2)<20000 - ((K.map En.key).length - len)
    rw [List.length_map,List.length_map]
    omega
 ·have h2:((eb:Int)==0)=false:=h2
  have h2:¬ eb=0:=by simpa using h2
  have hg:n.goal e=false:=by unfold NetL.goal;rw [hef,heb];simp [h2]
  rw [hg] at hst
  have hst:n.planF bl (r+1) hd K=n.planF bl r (hd+1) (n.growF bl e n.tanks.length 0 K):=hst
  refine ⟨_,rfl,_,den96 n ef eb,?_⟩
  have hxs:n.stepsF e.f e.b n.tanks.length 0=n.stepsF ef eb n.tanks.length 0:=by rw [hef,heb]
  refine ⟨rfl,_,rfl,_,it103 n h ef eb helt.1 helt.2,6,[],fun j bs y=>∃ (g2 off2 len2:Nat) (Kj:List En) (pre2:List (List D)),Kj=n.growS bl e n.tanks.length 0 j K∧off2=pre2.length∧len2=Kj.length - (hd+1)∧Known Kj∧y=.non ∧
   bs=[.flat false [.int .i64 bl],.map false (Kj.map En.key) (vals Kj),.flat false [.mloc 1],.rows false g2 2 (pre2++(Kj.drop (hd+1)).map stRow),.flat false [.sl 3 g2 off2 len2],.flat false (stD ef eb)],rfl,rfl,rfl,?_,?_,?_,?_⟩
  ·refine ⟨g,off+1,len - 1,K,pre++[stRow e],(growS_zero n bl e _ _ K).symm,by simp;omega,by omega,hK,rfl,?_⟩
   rw [List.append_assoc]
   show _=[Box.flat false [.int .i64 bl],.map false (K.map En.key) (vals K),.flat false [.mloc 1],.rows false g 2 (pre++(e::K.drop (hd+1)).map stRow),.flat false [.sl 3 g (off+1) (len - 1)],.flat false (stD ef eb)]
   rw [← hdrop]
   rfl
  ·rintro j x bs y hx ⟨g2,off2,len2,Kj,pre2,hKj,hoff2,hlen2,hKn,rfl,rfl⟩
   rw [← hxs] at hx
   obtain ⟨k,f',b',hk1,_,hsr,rfl,hgs⟩:=growS_step n bl e n.tanks.length 0 j K x hx
   have hk7:k<7:=by omega
   obtain ⟨L,hL⟩:=growS_app n bl e n.tanks.length 0 j K
   rw [← hKj] at hL hgs
   have hKl:hd+1≤Kj.length:=by rw [hL,List.length_append];omega
   have hslt:=n.stepR_lt (f:=e.f) (b:=e.b) (i:=k) (off:=e.b.testBit k) (by rw [hef];exact helt.1) (by rw [heb];exact helt.2) hk7
   rw [hsr] at hslt
   have hkl:=hKn.len
   have hg1:n.grow1 bl e k Kj=if (idx Kj f' b').isSome=false∧((pop b':Nat):Int)≤bl then Kj++[(⟨f',b',ef,eb,k,e.b.testBit k⟩:En)] else Kj:=by unfold NetL.grow1;rw [hsr,hef,heb]
   have hKn':Known (n.grow1 bl e k Kj):=hKn.grow1 (by rw [hL];exact ⟨_,idx_app _ (hef ▸ heb ▸ hidx)⟩) (by rw [hef];exact helt.1) (by rw [heb];exact helt.2) hk7
   have hfind:findK (.agg [.int .u64 f',.int .u64 b']) (Kj.map En.key)=some (idx Kj f' b'):=findK_st f' b' Kj
   obtain ⟨sb,hsb⟩:∃ s,e.b.testBit k=s:=⟨_,rfl⟩
   rw [heb] at hsb
   cases hix:idx Kj f' b' with
   | some i =>
    rw [hix] at hfind hg1
    rw [if_neg (by simp)] at hg1
    obtain ⟨d,hd1,hd2,hd3⟩:=idx_get hix
    obtain ⟨v1,v2,v3,v4,hval⟩:=vals_any hd1
    refine ⟨some i,hfind,_,_,⟨hval,rfl⟩,?_⟩
    refine Or.inl ⟨by kernel_rfl,?_⟩
    refine ⟨rfl,g2,off2,len2,Kj,pre2,by rw [hgs,hg1],hoff2,hlen2,hKn,rfl,rfl⟩
   | none =>
    rw [hix] at hfind hg1
    refine ⟨none,hfind,_,_,⟨rfl,rfl⟩,?_⟩
    refine Or.inl ⟨by kernel_rfl,?_⟩
    refine ⟨_,rfl,_,den97 b' hslt.2,?_⟩
    refine ⟨fun h4=>?_,fun h4=>?_⟩
    ·have h4:((pop b':Nat):Int)≤bl:=of_decide_eq_true h4
     rw [if_pos ⟨rfl,h4⟩] at hg1
     rw [hg1] at hgs hKn'
     refine ⟨none,hfind,_,_,⟨rfl,rfl⟩,?_⟩
     have hold:((pre2++(Kj.drop (hd+1)).map stRow).drop off2).take len2=(Kj.drop (hd+1)).map stRow:=by
      rw [drop_rows hoff2]
      exact List.take_of_length_le (by simp;omega)
     have hall:(Kj.drop (hd+1)).map stRow++[[D.int .u64 f',D.int .u64 b']]=((Kj++[(⟨f',b',ef,eb,k,e.b.testBit k⟩:En)]).drop (hd+1)).map stRow:=by
      rw [List.drop_append_of_le_length hKl,List.map_append]
      rfl
     have halll:(((Kj++[(⟨f',b',ef,eb,k,e.b.testBit k⟩:En)]).drop (hd+1)).map stRow).length=(Kj++[(⟨f',b',ef,eb,k,e.b.testBit k⟩:En)]).length - (hd+1):=by simp
     refine ⟨trivial,iff' (by rw [beq_self];rfl) ⟨by simp;omega,?_,_,hold,_,hall,offE_mk ?_,?_⟩⟩
     ·show (len2+1)*16≤mostBytes;unfold mostBytes;omega
     ·refine ⟨rfl,g2+1,off2,_,_,pre2,hgs.symm,hoff2,halll,hKn',rfl,?_⟩
      rw [take_rows hoff2,List.map_append,vals_snoc hKn.ne]
      rfl
     ·refine ⟨rfl,g2+1,0,_,_,[],hgs.symm,rfl,halll,hKn',rfl,?_⟩
      rw [List.map_append,vals_snoc hKn.ne]
      rfl
    ·have h4:¬ ((pop b':Nat):Int)≤bl:=of_decide_eq_false h4
     rw [if_neg (fun hc=>h4 hc.2)] at hg1
     refine ⟨rfl,g2,off2,len2,Kj,pre2,by rw [hgs,hg1],hoff2,hlen2,hKn,rfl,rfl⟩
  ·intro x hx
   obtain ⟨j,hj⟩:=List.mem_iff_getElem?.1 hx
   rw [← hxs] at hj
   obtain ⟨k,f',b',_,_,_,rfl,_⟩:=growS_step n bl e n.tanks.length 0 j K x hj
   exact ⟨rfl,rfl⟩
  ·rintro bs y ⟨g2,off2,len2,Kj,pre2,hKj,hoff2,hlen2,hKn,rfl,rfl⟩
   rw [← hxs,growS_all] at hKj
   obtain ⟨L,hL⟩:=growF_app n bl e n.tanks.length 0 K
   rw [← hKj] at hL
   have hKl:K.length≤Kj.length:=by rw [hL,List.length_append];omega
   refine ⟨⟨rfl,rfl⟩,⟨hd+1,r,g2,off2,len2,Kj,pre2,hoff2,hlen2,hKn,by omega,by omega,by rw [hrec,hst,hKj],rfl⟩,?_⟩
   show 20000 - ((Kj.map En.key).length - len2)<20000 - ((K.map En.key).length - len)
   rw [List.length_map,List.length_map]
   omega

end Go.Proofs.Vent

namespace Go.Proofs.Vent
open Go.V Go.Proofs

def Nt.planN (n:Nt) (blanks wanted:List Int) (bl:Int):List Vs × Int :=
 if n.lookE blanks wanted true=0 then (if bl<1∨bl > 7 then ([],7) else match (n.look blanks wanted).plan bl with
  | none=>([],9)
  | some l=>(l,0)) else ([],n.lookE blanks wanted true)
def tupVI (x:List Vs × Int):D:=.tup [.list 2 (x.1.map Vs.enc),.int .i64 x.2]

set_option maxHeartbeats 2000000 in
theorem den31 (n:Nt) (blanks wanted:List Int) (bl:Int) (hbl:blanks.length<9223372036854775808) (hwl:wanted.length<9223372036854775808):DN 31 [.agg n.enc,.list 1 (blanks.map encI),.list 1 (wanted.map encI),.int .i64 bl] (tupVI (n.planN blanks wanted bl)):=by
 have h55:=den55w n blanks wanted hbl hwl
 by_cases he:n.lookE blanks wanted true=0
 rotate_left
 ·rw [Nt.lookD_bad he] at h55
  have hR:n.planN blanks wanted bl=([],n.lookE blanks wanted true):=by unfold Nt.planN;rw [if_neg he]
  rw [hR]
  obtain ⟨e,hee⟩:∃ e,n.lookE blanks wanted true=e:=⟨_,rfl⟩
  rw [hee] at h55 he ⊢
  refine mkW Try.func31 Try.call31 rfl rfl ?_
  refine ⟨_,rfl,_,h55,?_⟩
  refine ⟨fun _=>?_,fun h=>?_⟩
  ·exact ⟨_,rfl,.tcons (.nil 0 2) (.refl _)⟩
  ·have h:(e != 0)=false:=h
   exact absurd (by simpa using h) he
 rw [Nt.lookD_ok he] at h55
 have hok:=Nt.look_okw he
 obtain ⟨m,hm⟩:∃ m,n.look blanks wanted=m:=⟨_,rfl⟩
 have hR:n.planN blanks wanted bl=if bl<1∨bl > 7 then (([],7):List Vs × Int) else match m.plan bl with
  | none=>([],9)
  | some l=>(l,0):=by unfold Nt.planN;rw [if_pos he,hm]
 rw [hm] at h55 hok
 have h78:=den78 m hok bl
 refine mkW Try.func31 Try.call31 rfl rfl ?_
 refine ⟨_,rfl,_,h55,?_⟩
 refine ⟨fun h=>absurd h (by decide),fun _=>?_⟩
 refine ⟨fun h1=>?_,fun h1=>?_⟩
 ·have h1:bl<1:=of_decide_eq_true h1
  rw [if_pos (.inl h1)] at hR
  rw [hR]
  exact ⟨_,rfl,.tcons (.nil 0 2) (.refl _)⟩
 have h1:¬ bl<1:=of_decide_eq_false h1
 refine ⟨fun h2=>?_,fun h2=>?_⟩
 ·have h2:bl > 7:=of_decide_eq_true h2
  rw [if_pos (.inr h2)] at hR
  rw [hR]
  exact ⟨_,rfl,.tcons (.nil 0 2) (.refl _)⟩
 have h2:¬ bl > 7:=of_decide_eq_false h2
 rw [if_neg (by omega)] at hR
 cases hp:m.plan bl with
 | none =>
  rw [hp] at h78 hR
  rw [hR]
  refine ⟨_,rfl,_,h78,?_⟩
  refine ⟨fun _=>?_,fun h=>absurd h (by decide)⟩
  exact ⟨_,rfl,.tcons (.nil 0 2) (.refl _)⟩
 | some l =>
  rw [hp] at h78 hR
  rw [hR]
  refine ⟨_,rfl,_,h78,?_⟩
  refine ⟨fun h=>absurd h (by decide),fun _=>?_⟩
  exact ⟨_,rfl,.refl _⟩

def NetL.fewF (n:NetL):Nat→Nat→Int × Int
 | 0,_=>(0,9)
 | r+1,many=>match n.plan many with
  | some _=>((many:Nat),0)
  | none=>n.fewF r (many+1)
def Nt.fewN (n:Nt) (blanks wanted:List Int):Int × Int :=
 if n.lookE blanks wanted true=0 then (match (n.look blanks wanted).separate with
  | false=>(0,9)
  | true=>(n.look blanks wanted).fewF n.tanks.length 1) else (0,n.lookE blanks wanted true)
def tupII (x:Int × Int):D:=.tup [.int .i64 x.1,.int .i64 x.2]

set_option maxHeartbeats 2000000 in
theorem den34 (n:Nt) (blanks wanted:List Int) (hbl:blanks.length<9223372036854775808) (hwl:wanted.length<9223372036854775808):DN 34 [.agg n.enc,.list 1 (blanks.map encI),.list 1 (wanted.map encI)] (tupII (n.fewN blanks wanted)):=by
 have h55:=den55w n blanks wanted hbl hwl
 by_cases he:n.lookE blanks wanted true=0
 rotate_left
 ·rw [Nt.lookD_bad he] at h55
  have hR:n.fewN blanks wanted=(0,n.lookE blanks wanted true):=by unfold Nt.fewN;rw [if_neg he]
  rw [hR]
  obtain ⟨e,hee⟩:∃ e,n.lookE blanks wanted true=e:=⟨_,rfl⟩
  rw [hee] at h55 he ⊢
  refine mk Try.func34 Try.call34 rfl rfl ?_
  refine ⟨_,rfl,_,h55,?_⟩
  refine ⟨fun _=>?_,fun h=>?_⟩
  ·rfl
  ·have h:(e != 0)=false:=h
   exact absurd (by simpa using h) he
 rw [Nt.lookD_ok he] at h55
 have hok:=Nt.look_okw he
 obtain ⟨m,hm⟩:∃ m,n.look blanks wanted=m:=⟨_,rfl⟩
 have hmt:m.tanks=n.tanks:=by rw [← hm];rfl
 have hR:n.fewN blanks wanted=(match m.separate with | false=>(0,9) | true=>m.fewF m.tanks.length 1):=by unfold Nt.fewN;rw [if_pos he,hm,hmt]
 rw [hm] at h55 hok
 have h7:=hok.t7
 have htl:((m.tanks.map Tk.enc).length:Int)=m.tanks.length:=by simp
 refine mk Try.func34 Try.call34 rfl rfl ?_
 refine ⟨_,rfl,_,h55,?_⟩
 refine ⟨fun h=>absurd h (by decide),fun _=>?_⟩
 refine ⟨_,rfl,_,den63 m hok,?_⟩
 refine ⟨fun h1=>?_,fun h1=>?_⟩
 ·have h1:(!m.separate)=true:=h1
  have h1:m.separate=false:=by simpa using h1
  rw [h1] at hR
  rw [hR];rfl
 have h1:(!m.separate)=false:=h1
 have h1:m.separate=true:=by simpa using h1
 rw [h1] at hR
 have hR:n.fewN blanks wanted=m.fewF m.tanks.length 1:=hR
 refine ⟨[8,10],0,[],fun σ=>∃ many:Nat,1≤many∧many≤m.tanks.length+1∧n.fewN blanks wanted=m.fewF (m.tanks.length+1 - many) many ∧
  σ=⟨[(8,.ro m.enc),(10,.int .i64 many)],[],.non⟩,
  fun σ=>(1000 - slotI 10 σ).toNat,rfl,⟨rfl,rfl⟩,⟨1,Nat.le_refl _,by omega,hR,rfl⟩,?_⟩
 rintro σ ⟨many,hm1,hm2,hrec,rfl⟩
 refine ⟨fun h2=>?_,fun h2=>?_⟩
 rotate_left
 ·have h2:=of_decide_eq_false h2
  rw [htl] at h2
  have e:m.tanks.length+1 - many=0:=by omega
  rw [e] at hrec
  rw [hrec];rfl
 have h2:=of_decide_eq_true h2
 rw [htl] at h2
 have less:(1000 - ((many:Int)+1)).toNat<(1000 - (many:Int)).toNat:=by omega
 have hst:m.fewF (m.tanks.length+1 - many) many=match m.plan many with
  | some _=>((many:Nat),0)
  | none=>m.fewF (m.tanks.length+1 - (many+1)) (many+1):=by
  rw [show m.tanks.length+1 - many=(m.tanks.length+1 - (many+1))+1 by omega]
  rfl
 have h78:=den78 m hok many
 cases hp:m.plan many with
 | some l =>
  rw [hp] at h78 hst
  refine ⟨_,rfl,_,h78,?_⟩
  refine ⟨fun _=>?_,fun h=>absurd h (by decide)⟩
  rw [hrec,hst];rfl
 | none =>
  rw [hp] at h78 hst
  refine ⟨_,rfl,_,h78,?_⟩
  refine ⟨fun h=>absurd h (by decide),fun _=>?_⟩
  refine ⟨(many:Int)+1,wrap64 (by omega) (by omega),?_⟩
  exact ⟨⟨rfl,rfl⟩,⟨many+1,by omega,by omega,hrec.trans hst,rfl⟩,less⟩

end Go.Proofs.Vent

namespace Go.Proofs.Vent
open Go.V Go.Proofs

def eqInts:List Int→List Int→Bool
 | [],[]=>true
 | a::r,b::s=>a==b && eqInts r s
 | _,_=>false
theorem eqInts_eq:∀ {a b:List Int},eqInts a b=true↔a=b
 | [],[]=>by simp [eqInts]
 | [],_::_=>by simp [eqInts]
 | _::_,[]=>by simp [eqInts]
 | x::a,y::b=>by simp [eqInts,eqInts_eq (a:=a) (b:=b)]
theorem eqInts_step {a b:List Int} {i:Nat} (hl:a.length=b.length) (hi:i<a.length):eqInts (a.drop i) (b.drop i)=(a[i]==b[i]'(hl ▸ hi) && eqInts (a.drop (i+1)) (b.drop (i+1))):=by
 have hb:i<b.length:=hl ▸ hi
 rw [List.drop_eq_getElem_cons hi,List.drop_eq_getElem_cons hb]
 rfl
theorem eqInts_len:∀ {a b:List Int},a.length≠b.length→eqInts a b=false
 | [],[],h=>absurd rfl h
 | [],_::_,_=>rfl
 | _::_,[],_=>rfl
 | x::a,y::b,h=>by simp only [eqInts];rw [eqInts_len (a:=a) (b:=b) (by simpa using h),Bool.and_false]

set_option maxHeartbeats 2000000 in
theorem den19 (a b:List Int) (ha:a.length<9223372036854775808):DN 19 [.list 1 (a.map encI),.list 1 (b.map encI)] (.bool (eqInts a b)):=by
 refine mk Try.func19 Try.call19 rfl rfl ?_
 have hal:((a.map encI).length:Int)=a.length:=by simp
 have hbl:((b.map encI).length:Int)=b.length:=by simp
 refine ⟨[0,1,5,6],0,[],fun σ=>∃ (i:Nat) (e:Bool),i≤a.length∧(e=true→a.length=b.length∧eqInts a b=eqInts (a.drop i) (b.drop i))∧(e=false→eqInts a b=false) ∧
  σ=⟨[(0,.list 1 (a.map encI)),(1,.list 1 (b.map encI)),(5,.bool e),(6,.int .i64 i)],[],.non⟩,
  fun σ=>((a.length:Int) - slotI 6 σ).toNat,rfl,⟨rfl,rfl⟩,⟨0,decide (a.length=b.length),Nat.zero_le _,fun h=>⟨of_decide_eq_true h,rfl⟩,fun h=>eqInts_len (of_decide_eq_false h),?_⟩,?_⟩
 · have:((((a.map encI).length:Nat):Int)==((b.map encI).length:Nat))=decide (a.length=b.length):=by
     rw [hal,hbl]
     apply Bool.eq_iff_iff.2
     simp
     omega
   show (⟨[(0,_),(1,_),(5,D.bool ((((a.map encI).length:Nat):Int)==((b.map encI).length:Nat))),(6,_)],_,_⟩:St)=_
   rw [this]
   rfl
 rintro σ ⟨i,e,hi,he1,he2,rfl⟩
 have fin:∀ x:Bool,eqInts a b=x→some (D.bool x)=some (D.bool (eqInts a b)):=fun x h=>by rw [h]
 refine ⟨fun h1=>?_,fun h1=>?_⟩
 ·have h1:=of_decide_eq_true h1
  rw [hal] at h1
  have hi':i<a.length:=by omega
  have less:((a.length:Int) - ((i:Int)+1)).toNat<((a.length:Int) - (i:Int)).toNat:=by omega
  refine ⟨fun h2=>?_,fun h2=>?_⟩
  ·have h2:e=true:=h2
   obtain ⟨hl,hr⟩:=he1 h2
   have hstep:=eqInts_step hl hi'
   refine Or.inl ⟨by kernel_rfl,?_⟩
   refine ⟨by omega,_,encI_get hi',?_⟩
   refine ⟨by omega,_,encI_get (hl ▸ hi'),?_⟩
   refine ⟨(i:Int)+1,wrap64 (by omega) (by omega),?_⟩
   refine ⟨⟨rfl,rfl⟩,⟨i+1,a[i]==b[i]'(hl ▸ hi'),hi',fun h3=>⟨hl,?_⟩,fun h3=>?_,rfl⟩,less⟩
   ·rw [hr,hstep,h3,Bool.true_and]
   ·rw [hr,hstep,h3,Bool.false_and]
  ·have h2:e=false:=h2
   subst h2
   exact fin false (he2 rfl)
 ·have h1:=of_decide_eq_false h1
  rw [hal] at h1
  cases e with
  | false=>exact fin false (he2 rfl)
  | true =>
   obtain ⟨hl,hr⟩:=he1 rfl
   rw [List.drop_of_length_le (by omega),List.drop_of_length_le (by omega)] at hr
   exact fin true hr

def eqVs:List Vs→List Vs→Bool
 | [],[]=>true
 | a::r,b::s=>(a.tank==b.tank && a.off==b.off) && eqVs r s
 | _,_=>false
theorem eqVs_step {a b:List Vs} {i:Nat} (hl:a.length=b.length) (hi:i<a.length):eqVs (a.drop i) (b.drop i)=((a[i].tank==(b[i]'(hl ▸ hi)).tank && a[i].off==(b[i]'(hl ▸ hi)).off) && eqVs (a.drop (i+1)) (b.drop (i+1))):=by
 have hb:i<b.length:=hl ▸ hi
 rw [List.drop_eq_getElem_cons hi,List.drop_eq_getElem_cons hb]
 rfl
theorem eqVs_len:∀ {a b:List Vs},a.length≠b.length→eqVs a b=false
 | [],[],h=>absurd rfl h
 | [],_::_,_=>rfl
 | _::_,[],_=>rfl
 | x::a,y::b,h=>by simp only [eqVs];rw [eqVs_len (a:=a) (b:=b) (by simpa using h),Bool.and_false]
theorem eqVs_eq:∀ {a b:List Vs},eqVs a b=true↔a=b
 | [],[]=>by simp [eqVs]
 | [],_::_=>by simp [eqVs]
 | _::_,[]=>by simp [eqVs]
 | ⟨t,o⟩::a,⟨t',o'⟩::b=>by simp [eqVs,eqVs_eq (a:=a) (b:=b),and_assoc]

end Go.Proofs.Vent
