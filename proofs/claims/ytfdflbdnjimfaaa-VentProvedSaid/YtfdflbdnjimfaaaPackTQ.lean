/- What Proves says: as many blanks are needed. No condition. -/
import Derived.Test.YtfdflbdnjimfaaaPackTE
import Derived.Test.YtfdflbdnjimfaaaPackTL

namespace Go.Proofs.Vent
open Go.V Go.Proofs

/-! How often pipes have been used. -/
theorem countU_cons (x:Int × Int) (r:List (Int × Int)) (v:Int):countU (x::r) v=if x.1=v then x.2 else countU r v:=by
  unfold countU
  by_cases h:x.1=v
  · rw [if_pos h]
    have:ixU (x::r) v=some 0:=by unfold ixU;rw [if_pos h]
    rw [this]
    rfl
  · rw [if_neg h]
    have : ixU (x :: r) v = (ixU r v).map (· + 1) := by conv => lhs; unfold ixU
                                                        rw [if_neg h]
    rw [this]
    cases ixU r v with
    | none=>rfl
    | some i=>rfl
theorem bumpU_cons (x:Int × Int) (r:List (Int × Int)) (v:Int):bumpU (x::r) v=if x.1=v then (x.1,x.2+1)::r else x::bumpU r v:=by
  unfold bumpU
  by_cases h:x.1=v
  · rw [if_pos h]
    have:ixU (x::r) v=some 0:=by unfold ixU;rw [if_pos h]
    rw [this]
    rfl
  · rw [if_neg h]
    have : ixU (x :: r) v = (ixU r v).map (· + 1) := by conv => lhs; unfold ixU
                                                        rw [if_neg h]
    rw [this]
    cases hr:ixU r v with
    | none=>rfl
    | some i =>
      obtain ⟨y,h1,_⟩:=ixU_lt hr
      simp only [Option.map_some,List.getElem?_cons_succ,h1,List.set_cons_succ]
theorem countU_bump:∀ (K:List (Int × Int)) (v u:Int),countU (bumpU K v) u=countU K u+if u=v then 1 else 0
  | [],v,u=>by
    have h1:bumpU [] v=[(v,1)]:=rfl
    rw [h1,countU_cons]
    have h2:countU [] u=0:=rfl
    rw [h2]
    by_cases h:u=v
    · rw [if_pos h,if_pos h.symm];rfl
    · rw [if_neg h,if_neg fun e=>h e.symm];rfl
  | x::r,v,u=>by
    rw [bumpU_cons]
    by_cases hx:x.1=v
    · rw [if_pos hx,countU_cons,countU_cons]
      by_cases hu:x.1=u
      · simp only [if_pos hu,if_pos (show u=v by rw [← hu,hx])]
      · simp only [if_neg hu,if_neg (show ¬ u=v by rw [← hx];exact fun e=>hu e.symm),Int.add_zero]
    · rw [if_neg hx,countU_cons,countU_cons,countU_bump r v u]
      by_cases hu:x.1=u
      · rw [if_pos hu,if_pos hu,if_neg (show ¬ u=v by rw [← hu];exact hx),Int.add_zero]
      · rw [if_neg hu,if_neg hu]
def NetL.useR (n:NetL):List Int→List (Int × Int)→Option (List (Int × Int))
  | [],K=>some K
  | v::r,K=>match decide (countU K v+1 > 1) && !(match n.pipes[v.toNat]? with | some p=>p.welded | none=>false) with
    | true=>none
    | false=>n.useR r (bumpU K v)
theorem NetL.useL_R (n:NetL) (way:List Int):∀ (c k:Nat) (K:List (Int × Int)),k+c=way.length→n.useL way c k K=n.useR (way.drop k) K
  | 0,k,K,hk=>by rw [List.drop_of_length_le (by omega)];rfl
  | c+1,k,K,hk=>by
    have hk':k<way.length:=by omega
    rw [List.drop_eq_getElem_cons hk']
    unfold NetL.useL NetL.useR
    rw [dAt_get hk',n.useL_R way c (k+1) _ (by omega)]
    rfl
def occ (v:Int):List Int→Int
  | []=>0
  | x::r=>(if x=v then 1 else 0)+occ v r
theorem occ_nonneg (v:Int):∀ l,0≤occ v l
  | []=>Int.le_refl _
  | x::r=>by have:=occ_nonneg v r;simp only [occ];split <;> omega
theorem occ_pos {v:Int}:∀ {l:List Int},v∈l→1≤occ v l
  | x::r,h=>by
    have h0:=occ_nonneg v r
    simp only [occ]
    rcases List.mem_cons.1 h with rfl | h
    · rw [if_pos rfl];omega
    · have:=occ_pos h;split <;> omega
theorem NetL.useR_some {n:NetL}:∀ (l:List Int) (K K':List (Int × Int)),n.useR l K=some K'→(∀ i p,n.pipes[i]?=some p→p.welded=false→countU K (i:Nat)≤1)→(∀ v∈l,0≤v) →
    (∀ v,countU K' v=countU K v+occ v l)∧∀ i p,n.pipes[i]?=some p→p.welded=false→countU K' (i:Nat)≤1
  | [],K,K',h,hK,_=>by cases h;exact ⟨fun v=>by simp [occ],hK⟩
  | v::r,K,K',h,hK,hl=>by
    unfold NetL.useR at h
    split at h
    · cases h
    · rename_i hc
      have hv0:=hl v (by simp)
      have hK1:∀ i p,n.pipes[i]?=some p→p.welded=false→countU (bumpU K v) (i:Nat)≤1:=fun i p hp hw=>by
        rw [countU_bump]
        by_cases e:(i:Int)=v
        · rw [if_pos e]
          have:v.toNat=i:=by omega
          rw [this,hp] at hc
          dsimp only at hc
          rw [hw,Bool.not_false,Bool.and_true] at hc
          have:=of_decide_eq_false hc
          rw [e];omega
        · rw [if_neg e];have:=hK i p hp hw;omega
      obtain ⟨h1,h2⟩:=NetL.useR_some r _ K' h hK1 fun u hu=>hl u (by simp [hu])
      refine ⟨fun u=>?_,h2⟩
      rw [h1 u,countU_bump]
      simp only [occ]
      by_cases e:u=v
      · rw [if_pos e,if_pos e.symm];omega
      · rw [if_neg e,if_neg fun x=>e x.symm];omega
theorem NetL.useR_ok {n:NetL}:∀ (l:List Int) (K:List (Int × Int)),(∀ v∈l,0≤v)→(∀ v,0≤countU K v)→(∀ i p,n.pipes[i]?=some p→p.welded=false→countU K (i:Nat)+occ (i:Nat) l≤1) →
    (∀ v∈l,v.toNat<n.pipes.length)→∃ K',n.useR l K=some K'∧∀ v,countU K' v=countU K v+occ v l
  | [],K,_,_,_,_=>⟨K,rfl,fun v=>by simp [occ]⟩
  | v::r,K,hl,h0,hK,hlt=>by
    have hv0:=hl v (by simp)
    obtain ⟨p,hp⟩:∃ p,n.pipes[v.toNat]?=some p:=⟨_,List.getElem?_eq_getElem (hlt v (by simp))⟩
    have hvn:((v.toNat:Nat):Int)=v:=Int.toNat_of_nonneg hv0
    have hc:(decide (countU K v+1 > 1) && !p.welded)=false:=by
      cases hw:p.welded with
      | true=>simp
      | false =>
        have:=hK v.toNat p hp hw
        rw [hvn] at this
        have h1:=occ_nonneg v r
        simp only [occ,if_true] at this
        have h2:=h0 v
        rw [decide_eq_false (by omega)]
        rfl
    obtain ⟨K',h1,h2⟩:=NetL.useR_ok r (bumpU K v) (fun u hu=>hl u (by simp [hu])) (fun u=>by rw [countU_bump];have:=h0 u;split <;> omega) (fun i q hq hw=>by
      have:=hK i q hq hw
      rw [countU_bump]
      simp only [occ] at this
      by_cases e:(i:Int)=v
      · rw [if_pos e];rw [if_pos e.symm] at this;omega
      · rw [if_neg e];rw [if_neg fun x=>e x.symm] at this;omega) (fun u hu=>hlt u (by simp [hu]))
    refine ⟨K',?_,fun u=>?_⟩
    · unfold NetL.useR
      rw [hp]
      dsimp only
      rw [hc]
      exact h1
    · rw [h2 u,countU_bump]
      simp only [occ]
      by_cases e:u=v
      · rw [if_pos e,if_pos e.symm];omega
      · rw [if_neg e,if_neg fun x=>e x.symm];omega

theorem NetL.gasL_con {n:NetL} (hn:n.Ok) (hopen:∀ j,j<n.pipes.length→n.opN j=true) {B:Nat→Bool} (way:List Int):∀ (c k seen at_:Nat),n.gasL way c k seen at_=true→k+c=way.length→(∀ v∈way,B v.toNat=false)→∃ t,n.wanted.testBit t=true∧(n.less B).Con at_ t
  | 0,k,seen,at_,h,_,_=>⟨at_,h,.refl _⟩
  | c+1,k,seen,at_,h,hk,hB=>by
    unfold NetL.gasL at h
    have hk':k<way.length:=by omega
    rw [List.getElem?_eq_getElem hk'] at h
    obtain ⟨v,hv⟩:∃ v,way[k]=v:=⟨_,rfl⟩
    have hvm:v∈way:=hv ▸ List.getElem_mem hk'
    rw [hv] at h
    simp only at h
    cases ho:offB n.pipes.length v with
    | true=>rw [ho] at h;cases h
    | false =>
      rw [ho] at h
      simp only at h
      cases hw:decide (0<k) && n.wanted.testBit at_ with
      | true=>rw [hw] at h;cases h
      | false =>
        rw [hw] at h
        simp only at h
        cases hp:n.pipes[v.toNat]? with
        | none=>rw [hp] at h;cases h
        | some p =>
          rw [hp] at h
          simp only at h
          have hpe:=hn.pe p (List.mem_of_getElem? hp)
          cases hway:p.way at_ with
          | none=>rw [hway] at h;cases h
          | some q =>
            obtain ⟨b,to⟩:=q
            rw [hway] at h
            simp only at h
            cases hs:seen.testBit to || n.kept.testBit to with
            | true=>rw [hs] at h;cases h
            | false =>
              rw [hs] at h
              simp only at h
              obtain ⟨he,_,_⟩:=Pp.way_some hpe.2.2 hway
              obtain ⟨t,h1,h2⟩:=NetL.gasL_con hn hopen way c (k+1) _ to h (by omega) hB
              have ha:(n.less B).adj at_ to:=⟨v.toNat,p,hp,by rw [n.less_op hn,hopen _ (List.getElem?_eq_some_iff.1 hp).1,hB v hvm];rfl,he⟩
              exact ⟨t,h1,NetL.Con.trans (.step (.refl _) ha) h2⟩

def useS (n:NetL) (B:Nat→Bool) (K:List (Int × Int)):Int:=sumS n.pipes.length fun i=>if B i=true then countU K (i:Nat) else 0
theorem useS_le {n:NetL} {B:Nat→Bool} {K:List (Int × Int)} (hK:∀ i p,n.pipes[i]?=some p→p.welded=false→countU K (i:Nat)≤1) (hfl:n.Fl B):useS n B K≤n.many B:=by
  have h1:useS n B K≤cntI n.pipes.length B:=sumS_le fun i hi=>by
    cases hb:B i with
    | false=>simp
    | true =>
      simp only [if_true]
      exact hK i _ (List.getElem?_eq_getElem hi) (hfl i _ (List.getElem?_eq_getElem hi) hb)
  rw [cntI_len] at h1
  exact h1
theorem useS_way {n:NetL} {B:Nat→Bool} {K K':List (Int × Int)} {w:List Int} (h:∀ v,countU K' v=countU K v+occ v w) {v:Int} (hv:v∈w) (h0:0≤v) (hlt:v<n.pipes.length) (hb:B v.toNat=true):useS n B K+1≤useS n B K':=by
  have h1:=sumS_one (x:=1) (a:=v.toNat) n.pipes.length
  rw [if_pos (by omega)] at h1
  have h2:useS n B K+sumS n.pipes.length (fun i=>if v.toNat=i then 1 else 0)≤useS n B K':=by
    unfold useS
    rw [← sumS_add]
    refine sumS_le fun i hi=>?_
    have h3:=occ_nonneg (i:Nat) w
    rw [h]
    by_cases e:v.toNat=i
    · subst e
      rw [if_pos hb,if_pos hb,if_pos rfl,Int.toNat_of_nonneg h0]
      have:=occ_pos hv
      omega
    · rw [if_neg e]
      cases B i with
      | true=>simp only [if_true];omega
      | false=>simp
  omega

theorem NetL.proves_le {n:NetL} (hn:n.Ok) (hopen:∀ j,j<n.pipes.length→n.opN j=true) {B:Nat→Bool} (hs:n.Sep B) (hfl:n.Fl B):∀ (ways:List (List Int)) (K:List (Int × Int)),n.provesL ways K=true→(∀ i p,n.pipes[i]?=some p→p.welded=false→countU K (i:Nat)≤1) →
    useS n B K+ways.length≤n.many B
  | [],K,_,hK=>by have:=useS_le hK hfl;simpa using this
  | w::r,K,h,hK=>by
    unfold NetL.provesL at h
    cases hany:(tanksU n.kept).any fun k=>n.gas k w with
    | false=>rw [hany] at h;cases h
    | true =>
      rw [hany] at h
      simp only at h
      obtain ⟨k,hk,hg⟩:=List.any_eq_true.1 hany
      obtain ⟨hk7,hkk⟩:=mem_tanksU.1 hk
      obtain ⟨hlen,hin⟩:=NetL.gas_len hn hg
      cases hu:n.useL w w.length 0 K with
      | none=>rw [hu] at h;cases h
      | some K' =>
        rw [hu] at h
        simp only at h
        rw [n.useL_R w w.length 0 K (by omega)] at hu
        obtain ⟨h1,h2⟩:=NetL.useR_some w K K' hu hK fun v hv=>(hin v hv).1
        have ih:=NetL.proves_le hn hopen hs hfl r K' h h2
        have hex:∃ v∈w,B v.toNat=true:=by
          by_cases hc:∃ v∈w,B v.toNat=true
          · exact hc
          · obtain ⟨t,t1,t2⟩:=NetL.gasL_con hn hopen (B:=B) w w.length 0 _ k hg (by omega) fun v hv=>by
              cases hb:B v.toNat with
              | false=>rfl
              | true=>exact absurd ⟨v,hv,hb⟩ hc
            exact absurd t2 (hs k t hkk t1)
        obtain ⟨v,hv,hb⟩:=hex
        have:=useS_way h1 hv (hin v hv).1 (hin v hv).2 hb
        rw [List.length_cons]
        omega

theorem NetL.proves_ok {n:NetL} (hn:n.Ok):∀ (ways:List (List Int)) (K:List (Int × Int)),(∀ w∈ways,∃ k,n.kept.testBit k=true∧n.gas k w=true)→(∀ v,0≤countU K v) →
    (∀ i p,n.pipes[i]?=some p→p.welded=false→countU K (i:Nat)+occ (i:Nat) ways.flatten≤1)→n.provesL ways K=true
  | [],K,_,_,_=>rfl
  | w::r,K,hg,h0,hK=>by
    obtain ⟨k,hk,hgk⟩:=hg w (by simp)
    obtain ⟨_,hin⟩:=NetL.gas_len hn hgk
    have hany:((tanksU n.kept).any fun k=>n.gas k w)=true:=List.any_eq_true.2 ⟨k,mem_tanksU.2 ⟨bit_lt hn.k hk,hk⟩,hgk⟩
    have happ:∀ (v:Int) (a b:List Int),occ v (a++b)=occ v a+occ v b:=by
      intro v a b
      induction a with
      | nil=>simp [occ]
      | cons x a ih=>simp only [List.cons_append,occ,ih];omega
    have hK2:∀ i p,n.pipes[i]?=some p→p.welded=false→countU K (i:Nat)+(occ (i:Nat) w+occ (i:Nat) r.flatten)≤1:=fun i p hp hw=>by
      have:=hK i p hp hw
      rw [List.flatten_cons,happ] at this
      exact this
    obtain ⟨K',h1,h2⟩:=NetL.useR_ok (n:=n) w K (fun v hv=>(hin v hv).1) h0 (fun i p hp hw=>by
      have:=hK2 i p hp hw
      have:=occ_nonneg (i:Nat) r.flatten
      omega) (fun v hv=>by have:=hin v hv;omega)
    unfold NetL.provesL
    rw [hany]
    dsimp only
    rw [n.useL_R w w.length 0 K (by omega),List.drop_zero,h1]
    dsimp only
    refine NetL.proves_ok hn r K' (fun w' hw'=>hg w' (by simp [hw'])) (fun v=>?_) (fun i p hp hw=>?_)
    · rw [h2 v];have:=h0 v;have:=occ_nonneg v w;omega
    · rw [h2];have:=hK2 i p hp hw;omega

end Go.Proofs.Vent
