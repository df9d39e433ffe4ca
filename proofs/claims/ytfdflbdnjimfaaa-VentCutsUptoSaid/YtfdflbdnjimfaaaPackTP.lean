/- The way that Way returns: a shortest one, and the first of them. No condition. -/
import Derived.Test.YtfdflbdnjimfaaaPackTF
import Derived.Test.YtfdflbdnjimfaaaPackTE
import Derived.Test.YtfdflbdnjimfaaaPackTH
import Derived.Test.YtfdflbdnjimfaaaPackTC

namespace Go.Proofs.Vent
open Go.V Go.Proofs

inductive NetL.Wk (n:NetL):Nat→Nat→Prop
 | zero {v:Nat}:n.wanted.testBit v=true→NetL.Wk n 0 v
 | step {t u v:Nat}:n.adj u v→n.kept.testBit v=false→NetL.Wk n t v→NetL.Wk n (t+1) u

theorem farW_at {l:List Int} (hl:l.length=7) {ws:List Nat} (hw:∀ v∈ws,v<7) (v:Nat):∀ k,farAt (farW l ws k) v=farAt l v∨(farAt (farW l ws k) v=0∧v∈ws)
 | 0=>.inl rfl
 | k+1=>by
  have ih:=farW_at hl hw v k
  have hlen:∀ k,(farW l ws k).length=7:=by
   intro k
   induction k with
   | zero=>exact hl
   | succ k ih=>unfold farW;split <;> simp [ih]
  unfold farW
  cases hv:ws[k]? with
  | none=>exact ih
  | some u =>
   have hu:=List.mem_of_getElem? hv
   simp only
   rw [farAt_set (by rw [hlen];exact hw u hu)]
   by_cases e:v=u
   ·rw [if_pos e];exact .inr ⟨rfl,e ▸ hu⟩
   ·rw [if_neg e];exact ih
theorem farW_in {l:List Int} (hl:l.length=7) {ws:List Nat} (hw:∀ v∈ws,v<7) {v:Nat}:∀ (k i:Nat),i<k→ws[i]?=some v→farAt (farW l ws k) v=0
 | 0,i,hi,_=>by omega
 | k+1,i,hi,hv=>by
  have hlen:∀ k,(farW l ws k).length=7:=by
   intro k
   induction k with
   | zero=>exact hl
   | succ k ih=>unfold farW;split <;> simp [ih]
  unfold farW
  by_cases e:i=k
  ·subst e
   rw [hv]
   simp only
   rw [farAt_set (by rw [hlen];exact hw v (List.mem_of_getElem? hv)),if_pos rfl]
  ·have ih:=farW_in hl hw k i (by omega) hv
   cases hu:ws[k]? with
   | none=>exact ih
   | some u =>
    simp only
    rw [farAt_set (by rw [hlen];exact hw u (List.mem_of_getElem? hu))]
    split
    ·rfl
    ·exact ih
theorem far0_at {many v:Nat} (hv:v<7):farAt (far0 many 7) v=many:=by
 unfold farAt far0
 rw [List.getD_eq_getElem?_getD,List.getElem?_map,List.getElem?_range hv]
 simp [hv]
def NetL.f0 (n:NetL):List Int:=farW (far0 n.tanks.length 7) (tanksU n.wanted) (tanksU n.wanted).length
theorem NetL.f0_len (n:NetL):n.f0.length=7:=(farW_ok (far0_ok n.tanks.length 7) (fun _v hv=>(mem_tanksU.1 hv).1) _).len
theorem NetL.f0_out {n:NetL} {v:Nat} (hv:v<7) (h:farAt n.f0 v<n.tanks.length):n.wanted.testBit v=true∧farAt n.f0 v=0:=by
 rcases farW_at (far0_len n.tanks.length 7) (fun v hv=>(mem_tanksU.1 hv).1) v (tanksU n.wanted).length with h1 | ⟨h1,h2⟩
 ·have h:farAt (farW (far0 n.tanks.length 7) (tanksU n.wanted) (tanksU n.wanted).length) v<n.tanks.length:=h
  rw [h1,far0_at hv] at h
  omega
 ·exact ⟨(mem_tanksU.1 h2).2,h1⟩
theorem NetL.f0_in {n:NetL} {v:Nat} (hv:v<7) (h:n.wanted.testBit v=true):farAt n.f0 v=0:=by
 obtain ⟨i,hi⟩:=List.mem_iff_getElem?.1 (mem_tanksU.2 ⟨hv,h⟩)
 exact farW_in (far0_len _ _) (fun v hv=>(mem_tanksU.1 hv).1) _ i (List.getElem?_eq_some_iff.1 hi).1 hi

def NetL.Snd (n:NetL) (l:List Int):Prop:=l.length=7∧∀ v,v<7→farAt l v<n.tanks.length→∃ t:Nat,farAt l v=t∧n.Wk t v
theorem NetL.Snd.relax1 {n:NetL} {l:List Int} (h:n.Snd l) {p:Pp} (h7:p.fr<7∧p.to<7) (ha:n.adj p.fr p.to):n.Snd (n.relax1 l p):=by
 unfold NetL.relax1
 split
 ·exact h
 ·rename_i hk
  refine ⟨by rw [List.length_set];exact h.1,fun v hv hlt=>?_⟩
  rw [farAt_set (by rw [h.1];exact h7.1)] at hlt ⊢
  by_cases e:v=p.fr
  ·rw [if_pos e] at hlt ⊢
   subst e
   by_cases hm:farAt l p.fr≤farAt l p.to+1
   ·rw [Int.min_eq_left hm] at hlt ⊢
    exact h.2 _ hv hlt
   ·rw [Int.min_eq_right (by omega)] at hlt ⊢
    obtain ⟨t,h1,h2⟩:=h.2 p.to h7.2 (by omega)
    exact ⟨t+1,by omega,.step ha (by simpa using hk) h2⟩
  ·rw [if_neg e] at hlt ⊢
   exact h.2 v hv hlt
theorem NetL.Snd.relax2 {n:NetL} {l:List Int} (h:n.Snd l) {p:Pp} (h7:p.fr<7∧p.to<7) (ha:n.adj p.fr p.to):n.Snd (n.relax2 l p):=by
 unfold NetL.relax2
 split
 ·exact h
 ·rename_i hk
  refine ⟨by rw [List.length_set];exact h.1,fun v hv hlt=>?_⟩
  rw [farAt_set (by rw [h.1];exact h7.2)] at hlt ⊢
  by_cases e:v=p.to
  ·rw [if_pos e] at hlt ⊢
   subst e
   by_cases hm:farAt l p.to≤farAt l p.fr+1
   ·rw [Int.min_eq_left hm] at hlt ⊢
    exact h.2 _ hv hlt
   ·rw [Int.min_eq_right (by omega)] at hlt ⊢
    obtain ⟨t,h1,h2⟩:=h.2 p.fr h7.1 (by omega)
    exact ⟨t+1,by omega,.step (NetL.adj_symm ha) (by simpa using hk) h2⟩
  ·rw [if_neg e] at hlt ⊢
   exact h.2 v hv hlt
theorem NetL.relaxN_succ (n:NetL) (l:List Int) (k:Nat):n.relaxN l (k+1)=match n.pipes[k]? with
    | none=>n.relaxN l k
    | some p=>if n.opN k=true then n.relax2 (n.relax1 (n.relaxN l k) p) p else n.relaxN l k:=rfl
theorem NetL.pipe7 {n:NetL} (hn:n.Ok) {k:Nat} {p:Pp} (hp:n.pipes[k]?=some p):p.fr<7∧p.to<7:=by
 have:=hn.pe p (List.mem_of_getElem? hp)
 have:=hn.t7
 omega
theorem NetL.Snd.relaxN {n:NetL} (hn:n.Ok) {l:List Int} (h:n.Snd l):∀ k,n.Snd (n.relaxN l k)
 | 0=>h
 | k+1=>by
  have ih:=NetL.Snd.relaxN hn h k
  rw [n.relaxN_succ]
  cases hp:n.pipes[k]? with
  | none=>exact ih
  | some p =>
   simp only
   split
   ·rename_i ho
    have ha:n.adj p.fr p.to:=⟨k,p,hp,ho,.inl ⟨rfl,rfl⟩⟩
    exact (ih.relax1 (NetL.pipe7 hn hp) ha).relax2 (NetL.pipe7 hn hp) ha
   ·exact ih
theorem NetL.Snd.relaxF {n:NetL} (hn:n.Ok) {l:List Int} (h:n.Snd l):∀ k,n.Snd (n.relaxF l k)
 | 0=>h
 | k+1=>(NetL.Snd.relaxF hn h k).relaxN hn _
theorem NetL.snd0 {n:NetL}:n.Snd n.f0:=⟨n.f0_len,fun _v hv h=>⟨0,(NetL.f0_out hv h).2,.zero (NetL.f0_out hv h).1⟩⟩
theorem NetL.far_wk {n:NetL} (hn:n.Ok) {v:Nat} (hv:v<7) (h:farAt n.far v<n.tanks.length):∃ t:Nat,farAt n.far v=t∧n.Wk t v:=(NetL.snd0.relaxF hn n.tanks.length).2 v hv h

theorem relax1_le {n:NetL} {l:List Int} (hl:l.length=7) {p:Pp} (h7:p.fr<7) (v:Nat):farAt (n.relax1 l p) v≤farAt l v:=by
 unfold NetL.relax1
 split
 ·exact Int.le_refl _
 ·rw [farAt_set (by rw [hl];exact h7)]
  split
  ·rename_i e;subst e;exact Int.min_le_left _ _
  ·exact Int.le_refl _
theorem relax2_le {n:NetL} {l:List Int} (hl:l.length=7) {p:Pp} (h7:p.to<7) (v:Nat):farAt (n.relax2 l p) v≤farAt l v:=by
 unfold NetL.relax2
 split
 ·exact Int.le_refl _
 ·rw [farAt_set (by rw [hl];exact h7)]
  split
  ·rename_i e;subst e;exact Int.min_le_left _ _
  ·exact Int.le_refl _
theorem relax1_len {n:NetL} {l:List Int} {p:Pp}:(n.relax1 l p).length=l.length:=by unfold NetL.relax1;split <;> simp
theorem relax2_len {n:NetL} {l:List Int} {p:Pp}:(n.relax2 l p).length=l.length:=by unfold NetL.relax2;split <;> simp
theorem relaxN_len {n:NetL} {l:List Int}:∀ k,(n.relaxN l k).length=l.length
 | 0=>rfl
 | k+1=>by
  rw [n.relaxN_succ]
  cases n.pipes[k]? with
  | none=>exact relaxN_len k
  | some p =>
   simp only
   split
   ·rw [relax2_len,relax1_len,relaxN_len k]
   ·exact relaxN_len k
theorem relaxN_le {n:NetL} (hn:n.Ok) {l:List Int} (hl:l.length=7) (v:Nat):∀ k,farAt (n.relaxN l (k+1)) v≤farAt (n.relaxN l k) v:=fun k=>by
 rw [n.relaxN_succ]
 cases hp:n.pipes[k]? with
 | none=>exact Int.le_refl _
 | some p =>
  simp only
  split
  ·have h7:=NetL.pipe7 hn hp
   exact Int.le_trans (relax2_le (by rw [relax1_len,relaxN_len,hl]) h7.2 v) (relax1_le (by rw [relaxN_len,hl]) h7.1 v)
  ·exact Int.le_refl _
theorem relaxN_les {n:NetL} (hn:n.Ok) {l:List Int} (hl:l.length=7) (v:Nat) {k:Nat}:∀ {m:Nat},k≤m→farAt (n.relaxN l m) v≤farAt (n.relaxN l k) v
 | 0, h => by obtain rfl : k = 0 := by omega
              exact Int.le_refl _
 | m+1,h=>by
  by_cases e:k=m+1
  ·subst e;exact Int.le_refl _
  ·exact Int.le_trans (relaxN_le hn hl v m) (relaxN_les hn hl v (by omega))
theorem relaxF_len {n:NetL} {l:List Int}:∀ k,(n.relaxF l k).length=l.length
 | 0=>rfl
 | k+1=>by
  show (n.relaxN (n.relaxF l k) _).length=_
  rw [relaxN_len,relaxF_len k]
theorem relaxN_near {n:NetL} (hn:n.Ok) {l:List Int} (hl:l.length=7) {u v:Nat} (ha:n.adj u v) (hk:n.kept.testBit v=false):farAt (n.relaxN l n.pipes.length) u≤farAt l v+1:=by
 obtain ⟨i,p,hp,ho,he⟩:=ha
 have hil:i<n.pipes.length:=(List.getElem?_eq_some_iff.1 hp).1
 have h7:=NetL.pipe7 hn hp
 have hli:(n.relaxN l i).length=7:=by rw [relaxN_len,hl]
 refine Int.le_trans (relaxN_les hn hl u (show i+1≤n.pipes.length by omega)) ?_
 have hv:=relaxN_les hn hl v (Nat.zero_le i)
 rw [n.relaxN_succ,hp]
 simp only
 rw [if_pos ho]
 have hv:farAt (n.relaxN l i) v≤farAt l v:=hv
 rcases he with ⟨rfl,rfl⟩ | ⟨rfl,rfl⟩
 ·refine Int.le_trans (relax2_le (by rw [relax1_len,hli]) h7.2 _) ?_
  unfold NetL.relax1
  rw [if_neg (by rw [hk];decide),farAt_set (by rw [hli];exact h7.1),if_pos rfl]
  omega
 ·have h1:=relax1_le (n:=n) hli h7.1 p.fr
  unfold NetL.relax2
  rw [if_neg (by rw [hk];decide),farAt_set (by rw [relax1_len,hli];exact h7.2),if_pos rfl]
  omega
theorem NetL.far_le {n:NetL} (hn:n.Ok):∀ (k t v:Nat),t≤k→v<7→n.Wk t v→farAt (n.relaxF n.f0 k) v≤t
 | 0,t,v,ht,hv,h=>by
  obtain rfl:t=0:=by omega
  cases h with
  | zero hw=>exact Int.le_of_eq (NetL.f0_in hv hw)
 | k+1,t,v,ht,hv,h=>by
  have hlen:(n.relaxF n.f0 k).length=7:=by rw [relaxF_len,n.f0_len]
  show farAt (n.relaxN (n.relaxF n.f0 k) n.pipes.length) v≤t
  cases h with
  | zero hw =>
   have ih:=NetL.far_le hn k 0 v (Nat.zero_le _) hv (.zero hw)
   exact Int.le_trans (relaxN_les hn hlen v (Nat.zero_le _)) ih
  | @step t u w ha hk h =>
   have hw7:w<7:=by have:=(NetL.adj_lt hn ha).2;have:=hn.t7;omega
   have ih:=NetL.far_le hn k t w (by omega) hw7 h
   have:=relaxN_near hn hlen ha hk
   omega
theorem NetL.far_max {n:NetL} (hn:n.Ok) {t v:Nat} (ht:t≤n.tanks.length) (hv:v<7) (h:n.Wk t v):farAt n.far v≤t:=NetL.far_le hn n.tanks.length t v ht hv h
theorem NetL.far_zero {n:NetL} (hn:n.Ok) {v:Nat} (hv:v<7):farAt n.far v=0↔n.wanted.testBit v=true:=by
 have h1:=hn.t1
 constructor
 ·intro h
  obtain ⟨t,h2,h3⟩:=NetL.far_wk hn hv (by omega)
  obtain rfl:t=0:=by omega
  cases h3 with
  | zero hw=>exact hw
 ·intro h
  have h2:=NetL.far_max hn (Nat.zero_le _) hv (.zero h)
  have h3:=(n.far_ok hn).bnd v
  omega
theorem NetL.far_step {n:NetL} (hn:n.Ok) {u v:Nat} (ha:n.adj u v) (hk:n.kept.testBit v=false) (h:farAt n.far v<n.tanks.length):farAt n.far u≤farAt n.far v+1:=by
 have h7:=hn.t7
 obtain ⟨hu,hv⟩:=NetL.adj_lt hn ha
 obtain ⟨t,h1,h2⟩:=NetL.far_wk hn (by omega) h
 have:=NetL.far_max hn (show t+1≤n.tanks.length by omega) (show u<7 by omega) (.step ha hk h2)
 omega

section
open Classical
noncomputable def nearB (n:NetL) (m u:Nat):Bool:=decide (∃ s,s≤m∧n.Wk s u)
theorem nearB_iff {n:NetL} {m u:Nat}:nearB n m u=true↔∃ s,s≤m∧n.Wk s u:=by unfold nearB;rw [decide_eq_true_iff]
theorem nearB_not {n:NetL} {m u:Nat} (h:∀ s,s≤m→¬ n.Wk s u):nearB n m u=false:=by
 cases hb:nearB n m u with
 | false=>rfl
 | true=>obtain ⟨s,h1,h2⟩:=nearB_iff.1 hb;exact absurd h2 (h s h1)
theorem wk_chain {n:NetL} (hn:n.Ok) (hw:∀ v,n.wanted.testBit v=true→v<n.tanks.length):∀ (m v:Nat),n.Wk m v→(∀ s,s<m→¬ n.Wk s v)→m+1≤cnt n.tanks.length (nearB n m)
 | 0,v,h,_=>by
  cases h with
  | zero hv =>
   have h1:=cnt_lt n.tanks.length (p:=fun _=>false) (q:=nearB n 0) (fun _ _ h=>by cases h) v (hw v hv) (nearB_iff.2 ⟨0,Nat.le_refl _,.zero hv⟩) rfl
   omega
 | m+1,v,h,hmin=>by
  cases h with
  | @step _ _ w ha hk h =>
   have ih:=wk_chain hn hw m w h fun s hs hws=>hmin (s+1) (by omega) (.step ha hk hws)
   have h1:=cnt_lt n.tanks.length (p:=nearB n m) (q:=nearB n (m+1)) (fun u _ hu=>by
    obtain ⟨s,h1,h2⟩:=nearB_iff.1 hu
    exact nearB_iff.2 ⟨s,by omega,h2⟩) v (NetL.adj_lt hn ha).1 (nearB_iff.2 ⟨m+1,Nat.le_refl _,.step ha hk h⟩) (nearB_not fun s h1=>hmin s (by omega))
   omega
theorem wk_short {n:NetL} (hn:n.Ok) (hw:∀ v,n.wanted.testBit v=true→v<n.tanks.length) {t v:Nat} (h:n.Wk t v):∃ s,s<n.tanks.length∧s≤t∧n.Wk s v:=by
 have key:∀ t,n.Wk t v→∃ s,s≤t∧n.Wk s v∧∀ r,r<s→¬ n.Wk r v:=by
  intro t
  induction t using Nat.strongRecOn with
  | _ t ih =>
   intro h
   by_cases hc:∃ r,r<t∧n.Wk r v
   ·obtain ⟨r,h1,h2⟩:=hc
    obtain ⟨s,h3,h4⟩:=ih r h1 h2
    exact ⟨s,by omega,h4⟩
   ·exact ⟨t,Nat.le_refl _,h,fun r hr hwr=>hc ⟨r,hr,hwr⟩⟩
 obtain ⟨s,h1,h2,h3⟩:=key t h
 have h4:=wk_chain hn hw s v h2 h3
 have h5:=cnt_le n.tanks.length (nearB n s)
 exact ⟨s,by omega,h1,h2⟩
end

theorem sep_wk {n:NetL} (hn:n.Ok) (h:n.separate=false):∃ k t,n.kept.testBit k=true∧n.Wk t k:=by
 by_cases hc:∃ k t,n.kept.testBit k=true∧n.Wk t k
 ·exact hc
 ·exfalso
  have:n.separate=true:=by
   rw [NetL.separate_iff hn]
   intro k t hk ht hcon
   have:=hcon.symm.closed (X:=fun v=>∃ s,n.Wk s v) (fun u v ⟨s,hs⟩ ha=>by
    cases hku:n.kept.testBit u with
    | true=>exact absurd ⟨u,s,hku,hs⟩ hc
    | false=>exact ⟨s+1,.step (NetL.adj_symm ha) hku hs⟩) ⟨0,.zero ht⟩
   obtain ⟨s,hs⟩:=this
   exact hc ⟨k,s,hk,hs⟩
  rw [h] at this
  cases this
theorem wk_sep {n:NetL} (hn:n.Ok) {k t:Nat} (hk:n.kept.testBit k=true) (h:n.Wk t k):n.separate=false:=by
 cases hs:n.separate with
 | false=>rfl
 | true =>
  have hsep:=(NetL.separate_iff hn).1 hs
  have:∀ {t v:Nat},n.Wk t v→∃ w,n.wanted.testBit w=true∧n.Con v w:=by
   intro t v h
   induction h with
   | zero hw=>exact ⟨_,hw,.refl _⟩
   | step ha _ _ ih =>
    obtain ⟨w,h1,h2⟩:=ih
    exact ⟨w,h1,NetL.Con.trans (.step (.refl _) ha) h2⟩
  obtain ⟨w,h1,h2⟩:=this h
  exact absurd h2 (hsep k w hk h1)

theorem bestN_le {l:List Int} {ks:List Nat} {b:Int}:∀ (m i v:Nat),i<m→ks[i]?=some v→bestN l ks b m≤farAt l v
 | 0,i,v,hi,_=>by omega
 | m+1,i,v,hi,hv=>by
  unfold bestN
  by_cases e:i=m
  ·subst e;rw [hv];simp only;omega
  ·have ih:=bestN_le (l:=l) (b:=b) m i v (by omega) hv
   cases ks[m]? with
   | none=>exact ih
   | some u=>simp only;omega
theorem bestN_is {l:List Int} {ks:List Nat} {b:Int}:∀ m,bestN l ks b m=b∨∃ v,v∈ks∧bestN l ks b m=farAt l v
 | 0=>.inl rfl
 | m+1=>by
  have ih:=bestN_is (l:=l) (ks:=ks) (b:=b) m
  unfold bestN
  cases hv:ks[m]? with
  | none=>exact ih
  | some u =>
   simp only
   by_cases hm:bestN l ks b m≤farAt l u
   ·rw [Int.min_eq_left hm];exact ih
   ·rw [Int.min_eq_right (by omega)];exact .inr ⟨u,List.mem_of_getElem? hv,rfl⟩
theorem atN_bit {l:List Int} {ks:List Nat} {b:Int} {v:Nat}:∀ m,(atN l ks b m).testBit v=true↔(farAt l v=b∧∃ i,i<m∧ks[i]?=some v)
 | 0=>by unfold atN;simp
 | m+1=>by
  have ih:=atN_bit (l:=l) (ks:=ks) (b:=b) (v:=v) m
  unfold atN
  cases hu:ks[m]? with
  | none =>
   simp only
   rw [ih]
   constructor
   ·rintro ⟨h1,i,h2,h3⟩;exact ⟨h1,i,by omega,h3⟩
   ·rintro ⟨h1,i,h2,h3⟩
    refine ⟨h1,i,?_,h3⟩
    by_cases e:i=m
    ·subst e;rw [hu] at h3;cases h3
    ·omega
  | some u =>
   simp only
   by_cases hf:farAt l u=b
   ·rw [if_pos hf,or_at]
    by_cases e:v=u
    ·rw [if_pos e]
     subst e
     exact ⟨fun _=>⟨hf,m,by omega,hu⟩,fun _=>rfl⟩
    ·rw [if_neg e,ih]
     constructor
     ·rintro ⟨h1,i,h2,h3⟩;exact ⟨h1,i,by omega,h3⟩
     ·rintro ⟨h1,i,h2,h3⟩
      refine ⟨h1,i,?_,h3⟩
      by_cases ei:i=m
      ·subst ei;rw [hu] at h3;cases h3;exact absurd rfl e
      ·omega
   ·rw [if_neg hf,ih]
    constructor
    ·rintro ⟨h1,i,h2,h3⟩;exact ⟨h1,i,by omega,h3⟩
    ·rintro ⟨h1,i,h2,h3⟩
     refine ⟨h1,i,?_,h3⟩
     by_cases ei:i=m
     ·subst ei;rw [hu] at h3;cases h3;exact absurd h1 hf
     ·omega

inductive NetL.Pth (n:NetL):Nat→List Nat→Prop
 | nil {a:Nat}:n.wanted.testBit a=true→NetL.Pth n a []
 | cons {a b i:Nat} {p:Pp} {ws:List Nat}:n.pipes[i]?=some p→n.opN i=true→p.ends a b→n.kept.testBit b=false→farAt n.far b+1=farAt n.far a→NetL.Pth n b ws→NetL.Pth n a (i::ws)
def lexle:List Nat→List Nat→Prop
 | [],_=>True
 | _::_,[]=>False
 | a::r,b::s=>a<b∨(a=b∧lexle r s)

theorem next2_bit {n:NetL} {l:List Int} {at_:Nat} {left:Int} {p:Pp} {b:Nat}:(n.next2 l at_ left p).testBit b=true↔∃ a,at_.testBit a=true∧p.ends a b∧farAt l b=left - 1∧n.kept.testBit b=false:=by
 have one:∀ (x u w:Nat),(n.next1 l at_ left u w x).testBit b=true↔(x.testBit b=true∨(b=w∧at_.testBit u=true∧farAt l w=left - 1∧n.kept.testBit w=false)):=by
  intro x u w
  unfold NetL.next1
  split
  ·rename_i hc
   rw [Bool.and_eq_true,Bool.and_eq_true,beq_iff_eq] at hc
   rw [or_at]
   have hk:n.kept.testBit w=false:=by simpa using hc.2
   by_cases e:b=w
   ·rw [if_pos e];exact ⟨fun _=>.inr ⟨e,hc.1.1,hc.1.2,hk⟩,fun _=>rfl⟩
   ·rw [if_neg e];exact ⟨fun h=>.inl h,fun h=>h.resolve_right fun h=>e h.1⟩
  ·rename_i hc
   refine ⟨fun h=>.inl h,fun h=>h.resolve_right fun ⟨_,h1,h2,h3⟩=>hc ?_⟩
   rw [h1,h2,h3];simp
 unfold NetL.next2
 rw [one,one,Nat.zero_testBit]
 constructor
 ·rintro ((h | ⟨rfl,h1,h2,h3⟩) | ⟨rfl,h1,h2,h3⟩)
  ·cases h
  ·exact ⟨p.fr,h1,.inl ⟨rfl,rfl⟩,h2,h3⟩
  ·exact ⟨p.to,h1,.inr ⟨rfl,rfl⟩,h2,h3⟩
 ·rintro ⟨a,h1,⟨rfl,rfl⟩ | ⟨rfl,rfl⟩,h2,h3⟩
  ·exact .inl (.inr ⟨rfl,h1,h2,h3⟩)
  ·exact .inr ⟨rfl,h1,h2,h3⟩
theorem ne_zero_bit {x:Nat} (h:x≠0):∃ b,x.testBit b=true:=by
 by_cases hc:∃ b,x.testBit b=true
 ·exact hc
 ·refine absurd (Nat.eq_of_testBit_eq fun i=>?_) h
  rw [Nat.zero_testBit]
  cases hx:x.testBit i with
  | false=>rfl
  | true=>exact absurd ⟨i,hx⟩ hc
theorem pickF_some {n:NetL} {l:List Int} {at_:Nat} {left:Int}:∀ (c i j x:Nat),n.pickF l at_ left c i=some (j,x)→i+c=n.pipes.length →
    i≤j∧(∃ p,n.pipes[j]?=some p∧n.opN j=true∧x=n.next2 l at_ left p∧x≠0)∧∀ q p,i≤q→q<j→n.pipes[q]?=some p→n.opN q=true→n.next2 l at_ left p=0
  | 0,i,j,x,h,_=>by cases h
  | c+1,i,j,x,h,hi=>by
   unfold NetL.pickF at h
   cases hp:n.pipes[i]? with
   | none=>rw [hp] at h;cases h
   | some p =>
    rw [hp] at h
    simp only at h
    by_cases hc:(n.opN i && !(n.next2 l at_ left p==0))=true
    ·rw [if_pos hc] at h
     cases h
     rw [Bool.and_eq_true] at hc
     exact ⟨Nat.le_refl _,⟨p,hp,hc.1,rfl,by simpa using hc.2⟩,fun q p' h1 h2=>by omega⟩
    ·rw [if_neg hc] at h
     obtain ⟨h1,h2,h3⟩:=pickF_some c (i+1) j x h (by omega)
     refine ⟨by omega,h2,fun q p' q1 q2 hq ho=>?_⟩
     by_cases e:q=i
     ·subst e
      rw [hp] at hq;cases hq
      rw [ho,Bool.true_and] at hc
      simpa using hc
     ·exact h3 q p' (by omega) q2 hq ho
theorem pickF_none {n:NetL} {l:List Int} {at_:Nat} {left:Int}:∀ (c i:Nat),n.pickF l at_ left c i=none→i+c=n.pipes.length→∀ q p,i≤q→n.pipes[q]?=some p→n.opN q=true→n.next2 l at_ left p=0
 | 0,i,h,hi,q,p,hq,hp,ho=>by have:=(List.getElem?_eq_some_iff.1 hp).1;omega
 | c+1,i,h,hi,q,p,hq,hp,ho=>by
  unfold NetL.pickF at h
  obtain ⟨p',hp'⟩:∃ p',n.pipes[i]?=some p':=⟨_,List.getElem?_eq_getElem (by omega)⟩
  rw [hp'] at h
  simp only at h
  by_cases hc:(n.opN i && !(n.next2 l at_ left p'==0))=true
  ·rw [if_pos hc] at h;cases h
  ·rw [if_neg hc] at h
   by_cases e:q=i
   ·subst e
    rw [hp] at hp';cases hp'
    rw [ho,Bool.true_and] at hc
    simpa using hc
   ·exact pickF_none c (i+1) h (by omega) q p (by omega) hp ho

theorem wayL_ok {n:NetL} (hn:n.Ok):∀ (r at_:Nat),(∃ a,at_.testBit a=true)→(∀ a,at_.testBit a=true→a<7∧farAt n.far a=r)→r<n.tanks.length →
    (∃ a,at_.testBit a=true∧n.Pth a (n.wayL n.far r at_))∧(n.wayL n.far r at_).length=r∧∀ a ws,at_.testBit a=true→n.Pth a ws→lexle (n.wayL n.far r at_) ws
  | 0,at_,⟨a,ha⟩,hat,_=>by
   refine ⟨⟨a,ha,.nil ((NetL.far_zero hn (hat a ha).1).1 (hat a ha).2)⟩,rfl,fun _ _ _ _=>trivial⟩
  | r+1,at_,⟨a,ha⟩,hat,hr=>by
   have h7:=hn.t7
   have hlevel:∀ b i p,n.pipes[i]?=some p→n.opN i=true→(∃ a,at_.testBit a=true∧p.ends a b)→n.kept.testBit b=false→farAt n.far b+1=((r+1:Nat):Int)→(n.next2 n.far at_ ((r:Nat)+1) p).testBit b=true:=fun b i p hp ho ⟨a,h1,h2⟩ hk hf=>next2_bit.2 ⟨a,h1,h2,by omega,hk⟩
   cases hpick:n.pickF n.far at_ ((r:Nat)+1) n.pipes.length 0 with
   | none =>
    exfalso
    obtain ⟨ha7,hfa⟩:=hat a ha
    obtain ⟨t,h1,h2⟩:=NetL.far_wk hn ha7 (by omega)
    obtain rfl:t=r+1:=by omega
    cases h2 with
    | @step _ _ b hadj hk h2 =>
     have hb7:b<7:=by have:=(NetL.adj_lt hn hadj).2;omega
     have h3:=NetL.far_max hn (by omega) hb7 h2
     have h4:=NetL.far_step hn hadj hk (by omega)
     obtain ⟨i,p,hp,ho,he⟩:=hadj
     have h5:=hlevel b i p hp ho ⟨a,ha,he⟩ hk (by omega)
     rw [pickF_none _ _ hpick (by omega) i p (Nat.zero_le _) hp ho,Nat.zero_testBit] at h5
     cases h5
   | some y =>
    obtain ⟨i,x⟩:=y
    obtain ⟨_,⟨p,hp,ho,hx,hx0⟩,hfirst⟩:=pickF_some _ _ _ _ hpick (by omega)
    have hp7:=NetL.pipe7 hn hp
    have ih:=wayL_ok hn r x (ne_zero_bit hx0) (fun b hb=>by
     rw [hx,next2_bit] at hb
     obtain ⟨a,h1,h2,h3,h4⟩:=hb
     refine ⟨by rcases h2 with ⟨_,rfl⟩ | ⟨rfl,_⟩ <;> omega,by omega⟩) (by omega)
    have e:n.wayL n.far (r+1) at_=i::n.wayL n.far r x:=by
     conv=>lhs;unfold NetL.wayL
     rw [hpick]
    rw [e]
    obtain ⟨⟨b,hb,hpth⟩,hlen,hlex⟩:=ih
    refine ⟨?_,by rw [List.length_cons,hlen],fun a' ws ha' hws=>?_⟩
    ·rw [hx,next2_bit] at hb
     obtain ⟨a',h1,h2,h3,h4⟩:=hb
     exact ⟨a',h1,.cons hp ho h2 h4 (by rw [(hat a' h1).2];omega) hpth⟩
    ·cases hws with
     | nil hw =>
      have:=(NetL.far_zero hn (hat a' ha').1).2 hw
      rw [(hat a' ha').2] at this
      omega
     | @cons _ b' j q ws' hq hoj he hk hf hrest =>
      rw [(hat a' ha').2] at hf
      have h5:=hlevel b' j q hq hoj ⟨a',ha',he⟩ hk hf
      unfold lexle
      by_cases hij:i=j
      ·subst hij
       rw [hp] at hq;cases hq
       exact .inr ⟨rfl,hlex b' ws' (by rw [hx];exact h5) hrest⟩
      ·refine .inl (Nat.lt_of_not_le fun hle=>?_)
       rw [hfirst j q (Nat.zero_le _) (by omega) hq hoj,Nat.zero_testBit] at h5
       cases h5

theorem NetL.way_ok {n:NetL} (hn:n.Ok) (hw:∀ v,n.wanted.testBit v=true→v<n.tanks.length) (hs:n.separate=false) :
    (∃ k,n.kept.testBit k=true∧n.Pth k n.way)∧(n.way.length:Int)=n.best∧n.best<n.tanks.length∧(∀ k,n.kept.testBit k=true→n.best≤farAt n.far k)∧∀ k ws,n.kept.testBit k=true→farAt n.far k=n.best→n.Pth k ws→lexle n.way ws:=by
  have hle:∀ k,n.kept.testBit k=true→n.best≤farAt n.far k:=fun k hk=>by
   obtain ⟨i,hi⟩:=List.mem_iff_getElem?.1 (mem_tanksU.2 ⟨bit_lt hn.k hk,hk⟩)
   exact bestN_le _ i k (List.getElem?_eq_some_iff.1 hi).1 hi
  obtain ⟨k,t,hk,hwk⟩:=sep_wk hn hs
  obtain ⟨s,h1,_,h3⟩:=wk_short hn hw hwk
  have h4:=NetL.far_max hn (by omega) (bit_lt hn.k hk) h3
  have h5:=hle k hk
  have hb0:=bestN_ok (n.far_ok hn) (tanksU n.kept) (Int.natCast_nonneg n.tanks.length) (Int.le_refl _) (tanksU n.kept).length
  have hbl:n.best<n.tanks.length:=by omega
  have hat:∀ a,(atN n.far (tanksU n.kept) n.best (tanksU n.kept).length).testBit a=true↔(n.kept.testBit a=true∧farAt n.far a=n.best):=fun a=>by
   rw [atN_bit]
   constructor
   ·rintro ⟨a1,i,_,a3⟩;exact ⟨(mem_tanksU.1 (List.mem_of_getElem? a3)).2,a1⟩
   ·rintro ⟨a1,a2⟩
    obtain ⟨i,hi⟩:=List.mem_iff_getElem?.1 (mem_tanksU.2 ⟨bit_lt hn.k a1,a1⟩)
    exact ⟨a2,i,(List.getElem?_eq_some_iff.1 hi).1,hi⟩
  obtain ⟨k0,hk0,hf0⟩:∃ k,n.kept.testBit k=true∧farAt n.far k=n.best:=by
   rcases bestN_is (l:=n.far) (ks:=tanksU n.kept) (b:=n.tanks.length) (tanksU n.kept).length with h | ⟨v,h6,h7⟩
   ·have:n.best=n.tanks.length:=h
    omega
   ·exact ⟨v,(mem_tanksU.1 h6).2,h7.symm⟩
  have hb0':0≤n.best:=hb0.1
  have hbn:((n.best.toNat:Nat):Int)=n.best:=Int.toNat_of_nonneg hb0'
  obtain ⟨⟨a,ha,hp⟩,hl,hx⟩:=wayL_ok hn n.best.toNat _ ⟨k0,(hat k0).2 ⟨hk0,hf0⟩⟩ (fun a ha=>⟨bit_lt hn.k ((hat a).1 ha).1,by rw [((hat a).1 ha).2,hbn]⟩) (by omega)
  refine ⟨⟨a,((hat a).1 ha).1,hp⟩,?_,hbl,hle,fun k ws h1 h2 h3=>hx k ws ((hat k).2 ⟨h1,h2⟩) h3⟩
  show ((n.wayL n.far n.best.toNat _).length:Int)=_
  rw [hl,hbn]


end Go.Proofs.Vent
