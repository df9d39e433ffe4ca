/- The document's gas and Proves: what they say. No condition. -/
import Derived.Test.YtfdflbdnjimfaaaPackTQ
import Derived.Test.YtfdflbdnjimfaaaPackTV
import Derived.Test.YtfdflbdnjimfaaaPackSF

namespace Go.Proofs.Vent
open Go.V Go.Proofs

def stepTo (n:Nt) (last v:Int):Int:=match offB n.pipes.length v with
 | true=>-1
 | false=>match n.pipes[v.toNat]? with
  | none=>-1
  | some p=>otherI p last
def gasW (n:Nt) (wt:List Int):List Int→List Int→Bool
 | [],_=>true
 | v::r,tanks=>match decide (stepTo n (lastI tanks) v ≥ 0) && (!(hasI tanks (stepTo n (lastI tanks) v)) && (!(n.keepB (stepTo n (lastI tanks) v)) && (hasI wt (stepTo n (lastI tanks) v)==r.isEmpty))) with
  | true=>gasW n wt r (tanks++[stepTo n (lastI tanks) v])
  | false=>false
def gasQ (n:Nt) (wt way:List Int):Bool:=(List.range n.tanks.length).any fun k=>n.keptB k && (!(way.isEmpty) && gasW n wt way [(k:Int)])
theorem lastI_snoc (l:List Int) (v:Int):lastI (l++[v])=v:=by
 unfold lastI
 have h:(l++[v]).length - 1<(l++[v]).length:=by simp
 rw [dAt_get h]
 simp
theorem hasI_snoc (l:List Int) (v u:Int):hasI (l++[v]) u=(hasI l u || (u==v)):=by unfold hasI;simp
theorem hasI_app (l m:List Int) (u:Int):hasI (l++m) u=(hasI l u || hasI m u):=by unfold hasI;simp
theorem way_other {n:Nt} (hn:n.Ok) {v:Int} {p:Rp} (hp:n.pipes[v.toNat]?=some p) {a:Nat}:match p.pp.way a with
    | none=>otherI p a=-1
    | some (_,to)=>otherI p a=(to:Int)∧to<n.tanks.length:=by
  have hpe:=hn.pe p (List.mem_of_getElem? hp)
  unfold Pp.way
  have e1:p.pp.fr=p.fr.toNat:=rfl
  have e2:p.pp.to=p.to.toNat:=rfl
  rw [e1,e2]
  unfold otherI
  by_cases h1:a=p.fr.toNat
  ·rw [if_pos h1,if_pos (show p.fr=(a:Int) by omega)]
   exact ⟨by omega,by omega⟩
  ·rw [if_neg h1,if_neg (show ¬ p.fr=(a:Int) by omega)]
   by_cases h2:a=p.to.toNat
   ·rw [if_pos h2,if_pos (show p.to=(a:Int) by omega)]
    exact ⟨by omega,by omega⟩
   ·rw [if_neg h2,if_neg (show ¬ p.to=(a:Int) by omega)]
theorem keepB_kept {n:Nt} {bl wt:List Int} {t:Nat} (ht:t<n.tanks.length):n.keepB (t:Int)=(n.look bl wt).kept.testBit t:=by
 rw [kept_iff,decide_eq_true ht,Bool.true_and]
 unfold Nt.keepB Nt.keptB
 rw [Int.toNat_natCast]
theorem hasI_want {n:Nt} {bl wt:List Int} (hin:inAll n.tanks.length wt) (t:Nat):hasI wt (t:Int)=(n.look bl wt).wanted.testBit t:=by
 apply Bool.eq_iff_iff.2
 rw [want_iff hin]
 unfold hasI
 rw [List.any_eq_true]
 exact ⟨fun ⟨x,h1,h2⟩=>by rw [beq_iff_eq.1 h2];exact h1,fun h=>⟨_,h,beq_self_eq_true _⟩⟩

theorem gasW_eq {n:Nt} (hn:n.Ok) {wt:List Int} (hin:inAll n.tanks.length wt) {way:List Int}:∀ (c k seen a:Nat) (tanks:List Int),k+(c+1)=way.length→lastI tanks=(a:Int)→a<7→(n.look [] wt).wanted.testBit a=false →
    (∀ v:Nat,v<7→hasI tanks (v:Int)=seen.testBit v)→gasW n wt (way.drop k) tanks=(n.look [] wt).gasL way (c+1) k seen a:=by
  have h7:=hn.t7
  intro c
  induction c with
  | zero =>
   intro k seen a tanks hk hl ha hw hs
   have hk':k<way.length:=by omega
   rw [List.drop_eq_getElem_cons hk',List.drop_of_length_le (by omega)]
   obtain ⟨v,hv⟩:∃ v,way[k]=v:=⟨_,rfl⟩
   rw [hv]
   unfold gasW NetL.gasL
   rw [List.getElem?_eq_getElem hk',hv,hl]
   simp only [look_plen]
   cases ho:offB n.pipes.length v with
   | true=>rw [show stepTo n (a:Int) v=-1 by unfold stepTo;rw [ho]];rfl
   | false =>
    simp only [hw,Bool.and_false]
    rw [look_pipe]
    cases hp:n.pipes[v.toNat]? with
    | none=>rw [show stepTo n (a:Int) v=-1 by unfold stepTo;rw [ho,hp]];rfl
    | some p =>
     have h:=way_other hn hp (a:=a)
     have hst:stepTo n (a:Int) v=otherI p a:=by unfold stepTo;rw [ho,hp]
     rw [hst]
     simp only [Option.map_some]
     cases hx:p.pp.way a with
     | none=>rw [hx] at h;simp only at h;rw [h];rfl
     | some x =>
      obtain ⟨b,to⟩:=x
      rw [hx] at h
      obtain ⟨h1,h2⟩:=h
      rw [h1]
      simp only
      rw [hs to (by omega),keepB_kept (bl:=[]) (wt:=wt) h2,hasI_want (bl:=[]) hin]
      rw [decide_eq_true (by omega:((to:Nat):Int) ≥ 0)]
      simp only [NetL.gasL,gasW]
      cases seen.testBit to <;> cases (n.look [] wt).kept.testBit to <;> cases (n.look [] wt).wanted.testBit to <;> rfl
  | succ c ih =>
   intro k seen a tanks hk hl ha hw hs
   have hk':k<way.length:=by omega
   rw [List.drop_eq_getElem_cons hk']
   have hne:(way.drop (k+1)).isEmpty=false:=by
    cases h:way.drop (k+1) with
    | nil=>have:=congrArg List.length h;simp at this;omega
    | cons _ _=>rfl
   obtain ⟨v,hv⟩:∃ v,way[k]=v:=⟨_,rfl⟩
   rw [hv]
   conv=>lhs;unfold gasW
   conv=>rhs;unfold NetL.gasL
   rw [List.getElem?_eq_getElem hk',hv,hl,hne]
   simp only [look_plen]
   cases ho:offB n.pipes.length v with
   | true=>rw [show stepTo n (a:Int) v=-1 by unfold stepTo;rw [ho]];rfl
   | false =>
    simp only [hw,Bool.and_false]
    rw [look_pipe]
    cases hp:n.pipes[v.toNat]? with
    | none=>rw [show stepTo n (a:Int) v=-1 by unfold stepTo;rw [ho,hp]];rfl
    | some p =>
     have h:=way_other hn hp (a:=a)
     have hst:stepTo n (a:Int) v=otherI p a:=by unfold stepTo;rw [ho,hp]
     rw [hst]
     simp only [Option.map_some]
     cases hx:p.pp.way a with
     | none=>rw [hx] at h;simp only at h;rw [h];rfl
     | some x =>
      obtain ⟨b,to⟩:=x
      rw [hx] at h
      obtain ⟨h1,h2⟩:=h
      rw [h1]
      simp only
      rw [hs to (by omega),keepB_kept (bl:=[]) (wt:=wt) h2,hasI_want (bl:=[]) hin]
      rw [decide_eq_true (by omega:((to:Nat):Int) ≥ 0)]
      have hrec:=fun hwt=>ih (k+1) (seen ||| 2^to) to (tanks++[(to:Int)]) (by omega) (lastI_snoc _ _) (by omega) hwt (fun u hu=>by
       rw [hasI_snoc,hs u hu,or_at]
       by_cases e:u=to
       ·subst e;simp
       ·rw [if_neg e,show (((u:Nat):Int)==((to:Nat):Int))=false from by simp;omega,Bool.or_false])
      cases hsn:seen.testBit to with
      | true=>rfl
      | false =>
       cases hkp:(n.look [] wt).kept.testBit to with
       | true=>rfl
       | false =>
        cases hwt:(n.look [] wt).wanted.testBit to with
        | false =>
         simp only [Bool.true_and,Bool.not_false,Bool.or_false,beq_self_eq_true]
         exact hrec hwt
        | true =>
         have:(n.look [] wt).gasL way (c+1) (k+1) (seen ||| 2^to) to=false:=by
          unfold NetL.gasL
          rw [hwt,decide_eq_true (by omega:0<k+1)]
          cases way[k+1]? with
          | none=>rfl
          | some v =>
           simp only
           cases offB (n.look [] wt).pipes.length v <;> rfl
         simp only [Bool.or_false]
         rw [this]
         rfl
theorem gasQ_eq {n:Nt} (hn:n.Ok) {wt:List Int} (hw:n.wantedE wt=none) (way:List Int):gasQ n wt way=(tanksU (n.look [] wt).kept).any fun k=>(n.look [] wt).gas k way:=by
 have hin:=Nt.wantedE_in hw
 have hfree:=look_free (n:=n) (bl:=[]) hw
 have h7:=hn.t7
 have hnw:∀ k,(n.look [] wt).kept.testBit k=true→(n.look [] wt).wanted.testBit k=false:=fun k hk=>by
  cases h:(n.look [] wt).wanted.testBit k with
  | false=>rfl
  | true=>have:=hfree k h;rw [hk] at this;cases this
 have one:∀ k,k<n.tanks.length→n.keptB k=true→(!(way.isEmpty) && gasW n wt way [(k:Int)])=(n.look [] wt).gas k way:=fun k hk hkb=>by
  have hkk:(n.look [] wt).kept.testBit k=true:=by rw [kept_iff,decide_eq_true hk,hkb];rfl
  have hwk:=hnw k hkk
  cases hway:way with
  | nil=>unfold NetL.gas NetL.gasL;simp only [List.length_nil];rw [hwk];rfl
  | cons v r =>
   have:=gasW_eq hn hin (way:=v::r) r.length 0 (2^k) k [(k:Int)] (by simp) rfl (by omega) hwk (fun u hu=>by
    rw [pow_bit]
    unfold hasI
    simp only [List.any_cons,List.any_nil,Bool.or_false]
    apply Bool.eq_iff_iff.2
    rw [beq_iff_eq,decide_eq_true_iff]
    omega)
   simp only [List.drop_zero] at this
   rw [this]
   rfl
 unfold gasQ
 apply Bool.eq_iff_iff.2
 rw [List.any_eq_true,List.any_eq_true]
 constructor
 ·rintro ⟨k,h1,h2⟩
  rw [List.mem_range] at h1
  rw [Bool.and_eq_true] at h2
  exact ⟨k,mem_tanksU.2 ⟨by omega,by rw [kept_iff,decide_eq_true h1,h2.1];rfl⟩,by rw [← one k h1 h2.1];exact h2.2⟩
 ·rintro ⟨k,h1,h2⟩
  have h3:=(mem_tanksU.1 h1).2
  rw [kept_iff,Bool.and_eq_true] at h3
  have h4:=of_decide_eq_true h3.1
  exact ⟨k,List.mem_range.2 h4,by rw [h3.2,Bool.true_and,one k h4 h3.2];exact h2⟩

def provesG (n:Nt) (wt:List Int):List (List Int)→List Int→Bool
 | [],_=>true
 | w::r,seen=>match gasQ n wt w with
  | false=>false
  | true=>match w.any fun v=>hasI seen v && !(n.weldB v) with
   | true=>false
   | false=>provesG n wt r (seen++w)
theorem useR_any {n:Nt} {wt:List Int}:∀ (l:List Int) (K:List (Int × Int)),l.Nodup→(n.look [] wt).useR l K=match l.any fun v=>decide (countU K v+1 > 1) && !(n.weldB v) with
    | true=>none
    | false=>some (l.foldl bumpU K)
  | [],K,_=>rfl
  | v::r,K,h=>by
   have h1:=List.nodup_cons.1 h
   have hcons:(n.look [] wt).useR (v::r) K=match decide (countU K v+1 > 1) && !(n.weldB v) with
       | true=>none
       | false=>(n.look [] wt).useR r (bumpU K v):=by
     conv=>lhs;unfold NetL.useR
     rw [look_pipe]
     unfold Nt.weldB
     cases n.pipes[v.toNat]? <;> rfl
   rw [hcons,List.any_cons]
   cases decide (countU K v+1 > 1) && !(n.weldB v) with
   | true=>rfl
   | false =>
    simp only [Bool.false_or,List.foldl_cons]
    rw [useR_any r (bumpU K v) h1.2]
    have:(r.any fun u=>decide (countU (bumpU K v) u+1 > 1) && !(n.weldB u))=r.any fun u=>decide (countU K u+1 > 1) && !(n.weldB u):=by
     apply Bool.eq_iff_iff.2
     rw [List.any_eq_true,List.any_eq_true]
     have key:∀ u∈r,countU (bumpU K v) u=countU K u:=fun u hu=>by
      rw [countU_bump,if_neg (fun e:u=v=>h1.1 (e ▸ hu))]
      omega
     exact ⟨fun ⟨u,a,c⟩=>⟨u,a,by rw [← key u a];exact c⟩,fun ⟨u,a,c⟩=>⟨u,a,by rw [key u a];exact c⟩⟩
    rw [this]
theorem countU_fold:∀ (l:List Int) (K:List (Int × Int)) (v:Int),countU (l.foldl bumpU K) v=countU K v+occ v l
 | [],K,v=>by simp [occ]
 | x::r,K,v=>by
  rw [List.foldl_cons,countU_fold r,countU_bump]
  simp only [occ]
  by_cases e:v=x
  ·rw [if_pos e,if_pos e.symm];omega
  ·rw [if_neg e,if_neg fun h=>e h.symm];omega
theorem occ_mem {v:Int}:∀ {l:List Int},1≤occ v l→v∈l
 | [],h=>by simp [occ] at h
 | x::r,h=>by
  simp only [occ] at h
  by_cases e:x=v
  ·rw [e];simp
  ·rw [if_neg e] at h
   exact List.mem_cons_of_mem _ (occ_mem (by omega))
theorem gas_nodup {n:NetL} (hn:n.Ok) {k:Nat} {w:List Int} (h:n.gas k w=true):w.Nodup:=by
 unfold List.Nodup
 rw [List.pairwise_iff_getElem]
 intro i j hi hj hij e
 have:=NetL.gas_new hn h i j hij hj
 rw [dAt_get hi,dAt_get hj] at this
 exact this e
theorem provesG_eq {n:Nt} (hn:n.Ok) {wt:List Int} (hw:n.wantedE wt=none):∀ (ways:List (List Int)) (K:List (Int × Int)) (seen:List Int),(∀ v,0≤countU K v)→(∀ v,hasI seen v=decide (countU K v+1 > 1)) →
    provesG n wt ways seen=(n.look [] wt).provesL ways K
  | [],_,_,_,_=>rfl
  | w::r,K,seen,h0,hs=>by
   have hok:=Nt.look_ok hn [] (Nt.wantedE_in hw)
   unfold provesG NetL.provesL
   rw [← gasQ_eq hn hw]
   cases hg:gasQ n wt w with
   | false=>rfl
   | true =>
    have hg2:=hg
    rw [gasQ_eq hn hw,List.any_eq_true] at hg2
    obtain ⟨k,_,hk⟩:=hg2
    have hnd:=gas_nodup hok hk
    simp only
    rw [NetL.useL_R _ w w.length 0 K (by omega),List.drop_zero,useR_any w K hnd]
    have:(w.any fun v=>hasI seen v && !(n.weldB v))=w.any fun v=>decide (countU K v+1 > 1) && !(n.weldB v):=by
     congr 1
     funext v
     rw [hs v]
    rw [this]
    cases w.any fun v=>decide (countU K v+1 > 1) && !(n.weldB v) with
    | true=>rfl
    | false =>
     simp only
     refine provesG_eq hn hw r _ _ (fun v=>by rw [countU_fold];have:=h0 v;have:=occ_nonneg v w;omega) fun v=>?_
     rw [hasI_app,hs v,countU_fold]
     have h1:=h0 v
     have h2:=occ_nonneg v w
     apply Bool.eq_iff_iff.2
     rw [Bool.or_eq_true,decide_eq_true_iff,decide_eq_true_iff]
     unfold hasI
     rw [List.any_eq_true]
     constructor
     ·rintro (h | ⟨x,hx,he⟩)
      ·omega
      ·have:v∈w:=by rw [beq_iff_eq.1 he];exact hx
       have:=occ_pos this
       omega
     ·intro h
      by_cases h3:1≤occ v w
      ·exact .inr ⟨v,occ_mem h3,beq_self_eq_true _⟩
      ·exact .inl (by omega)

theorem nodup_len:∀ (m:Nat) (l:List Int),l.Nodup→(∀ v∈l,0≤v∧v<m)→l.length≤m
 | 0,[],_,_=>Nat.le_refl _
 | 0,x::r,_,h=>by have:=h x (by simp);omega
 | m+1,l,hn,h=>by
  by_cases hm:(m:Int)∈l
  ·have h1:=List.length_erase_of_mem hm
   have h2:=nodup_len m (l.erase (m:Int)) (hn.erase _) fun v hv=>by
    have h3:=h v (List.mem_of_mem_erase hv)
    have h4:v≠(m:Int):=fun e=>by
     rw [e] at hv
     exact (List.Nodup.mem_erase_iff hn).1 hv |>.1 rfl
    omega
   omega
  · have:=nodup_len m l hn fun v hv=>by
      have h3:=h v hv
      have h4:v≠(m:Int):=fun e=>hm (e ▸ hv)
      omega
    omega

end Go.Proofs.Vent
