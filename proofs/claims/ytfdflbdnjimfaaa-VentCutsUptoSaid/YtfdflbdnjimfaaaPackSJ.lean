/- The document's Way is Way: the first of the shortest ways. No condition. -/
import Derived.Test.YtfdflbdnjimfaaaPackTP
import Derived.Test.YtfdflbdnjimfaaaPackTS
import Derived.Test.YtfdflbdnjimfaaaPackSF
import Derived.Test.YtfdflbdnjimfaaaPackSH

namespace Go.Proofs.Vent
open Go.V Go.Proofs

/-! Lists compared number by number. -/
theorem lexle_trans:∀ {a b c:List Nat},a.length=b.length→b.length=c.length→lexle a b→lexle b c→lexle a c
 | [],_,_,_,_,_,_=>trivial
 | _::_,[],_,h,_,_,_=>by cases h
 | _::_,_::_,[],_,h,_,_=>by cases h
 | x::a,y::b,z::c,h1,h2,h3,h4=>by
  rcases h3 with h3 | ⟨rfl,h3⟩
  ·rcases h4 with h4 | ⟨rfl,h4⟩
   ·exact .inl (by omega)
   ·exact .inl h3
  ·rcases h4 with h4 | ⟨rfl,h4⟩
   ·exact .inl h4
   ·exact .inr ⟨rfl,lexle_trans (by simpa using h1) (by simpa using h2) h3 h4⟩
theorem lexle_anti:∀ {a b:List Nat},a.length=b.length→lexle a b→lexle b a→a=b
 | [],[],_,_,_=>rfl
 | [],_::_,h,_,_=>by cases h
 | _::_,[],h,_,_=>by cases h
 | x::a,y::b,h1,h3,h4=>by
  rcases h3 with h3 | ⟨rfl,h3⟩
  ·rcases h4 with h4 | ⟨rfl,h4⟩
   ·omega
   ·omega
  ·rcases h4 with h4 | ⟨_,h4⟩
   ·omega
   ·rw [lexle_anti (by simpa using h1) h3 h4]
theorem before_le:∀ {a b:List Nat},a.length=b.length→(beforeI (castL a) (castL b)=true→lexle a b)∧(beforeI (castL a) (castL b)=false→lexle b a)
 | [],[],_=>⟨fun _=>trivial,fun _=>trivial⟩
 | [],_::_,h=>by cases h
 | _::_,[],h=>by cases h
 | x::a,y::b,h=>by
  have ih:=before_le (a:=a) (b:=b) (by simpa using h)
  have e:beforeI (castL (x::a)) (castL (y::b))=if (x:Int)=(y:Int) then beforeI (castL a) (castL b) else decide ((x:Int)<(y:Int)):=rfl
  rw [e]
  by_cases hxy:x=y
  ·subst hxy
   rw [if_pos rfl]
   exact ⟨fun h=>.inr ⟨rfl,ih.1 h⟩,fun h=>.inr ⟨rfl,ih.2 h⟩⟩
  ·rw [if_neg (by omega)]
   refine ⟨fun h=>.inl ?_,fun h=>.inl ?_⟩
   ·have:=of_decide_eq_true h;omega
   ·have:=of_decide_eq_false h;omega

inductive QP (n:Nt) (bl wt:List Int):List Int→List Nat→Prop
 | nil {tanks:List Int}:hasI wt (lastI tanks)=true→QP n bl wt tanks []
 | cons {tanks:List Int} {i:Nat} {p:Rp} {ws:List Nat}:hasI wt (lastI tanks)=false→n.pipes[i]?=some p→skipP n bl tanks (lastI tanks) p i=false→QP n bl wt (tanks++[otherI p (lastI tanks)]) ws→QP n bl wt tanks (i::ws)

theorem waysI_some {n:Nt} {bl tanks:List Int} {last:Int} {rec:Nat→Int→List Int × Bool}:∀ (c i:Nat) (l:List Int),i+c=n.pipes.length→waysI n bl tanks last rec c i=some l →
    ∃ j p,i≤j∧n.pipes[j]?=some p∧skipP n bl tanks last p j=false∧rec j (otherI p last)=(l,true)∧∀ j' p',i≤j'→j'<j→n.pipes[j']?=some p'→skipP n bl tanks last p' j'=false→(rec j' (otherI p' last)).2=false
  | 0,_,_,_,h=>by cases h
  | c+1,i,l,hi,h=>by
   unfold waysI at h
   obtain ⟨p,hp⟩:∃ p,n.pipes[i]?=some p:=⟨_,List.getElem?_eq_getElem (by omega)⟩
   rw [hp] at h
   simp only at h
   cases hs:skipP n bl tanks last p i with
   | true =>
    rw [hs] at h
    obtain ⟨j,q,h1,h2,h3,h4,h5⟩:=waysI_some c (i+1) l (by omega) h
    refine ⟨j,q,by omega,h2,h3,h4,fun j' p' a1 a2 a3 a4=>?_⟩
    by_cases e:j'=i
    ·subst e;rw [hp] at a3;cases a3;rw [hs] at a4;cases a4
    ·exact h5 j' p' (by omega) a2 a3 a4
   | false =>
    rw [hs] at h
    simp only at h
    obtain ⟨⟨l',b⟩,hr⟩:∃ y,rec i (otherI p last)=y:=⟨_,rfl⟩
    rw [hr] at h
    cases b with
    | true =>
     cases h
     exact ⟨i,p,Nat.le_refl _,hp,hs,hr,fun j' p' a1 a2=>by omega⟩
    | false =>
     obtain ⟨j,q,h1,h2,h3,h4,h5⟩:=waysI_some c (i+1) l (by omega) h
     refine ⟨j,q,by omega,h2,h3,h4,fun j' p' a1 a2 a3 a4=>?_⟩
     by_cases e:j'=i
     ·subst e;rw [hp] at a3;cases a3;rw [hr]
     ·exact h5 j' p' (by omega) a2 a3 a4
theorem waysI_none {n:Nt} {bl tanks:List Int} {last:Int} {rec:Nat→Int→List Int × Bool}:∀ (c i:Nat),i+c=n.pipes.length→waysI n bl tanks last rec c i=none →
    ∀ j' p',i≤j'→n.pipes[j']?=some p'→skipP n bl tanks last p' j'=false→(rec j' (otherI p' last)).2=false
  | 0,i,hi,_=>fun j' p' a1 a3 _=>by have:=(List.getElem?_eq_some_iff.1 a3).1;omega
  | c+1,i,hi,h=>by
   unfold waysI at h
   obtain ⟨p,hp⟩:∃ p,n.pipes[i]?=some p:=⟨_,List.getElem?_eq_getElem (by omega)⟩
   rw [hp] at h
   simp only at h
   intro j' p' a1 a3 a4
   cases hs:skipP n bl tanks last p i with
   | true =>
    rw [hs] at h
    by_cases e:j'=i
    ·subst e;rw [hp] at a3;cases a3;rw [hs] at a4;cases a4
    ·exact waysI_none c (i+1) (by omega) h j' p' (by omega) a3 a4
   | false =>
    rw [hs] at h
    simp only at h
    obtain ⟨⟨l',b⟩,hr⟩:∃ y,rec i (otherI p last)=y:=⟨_,rfl⟩
    rw [hr] at h
    cases b with
    | true=>cases h
    | false =>
     by_cases e:j'=i
     ·subst e;rw [hp] at a3;cases a3;rw [hr]
     ·exact waysI_none c (i+1) (by omega) h j' p' (by omega) a3 a4

theorem waysQ_ok {n:Nt} {bl wt:List Int} {many:Nat}:∀ (r:Nat) (bg tanks:List Int),bg.length≤many→many<bg.length+r →
    match waysQ n bl wt many r bg tanks with
    | (l,true)=>∃ ws,l=bg++castL ws∧ws.length=many - bg.length∧QP n bl wt tanks ws∧∀ ws',QP n bl wt tanks ws'→ws'.length=ws.length→lexle ws ws'
    | (_,false)=>∀ ws',QP n bl wt tanks ws'→ws'.length≠many - bg.length
  | 0,bg,tanks,h1,h2=>by omega
  | r+1,bg,tanks,h1,h2=>by
   unfold waysQ
   obtain ⟨w,hw⟩:∃ w,hasI wt (lastI tanks)=w:=⟨_,rfl⟩
   rw [hw]
   cases w with
   | true =>
    simp only [Bool.true_or,Bool.true_and]
    cases he:((bg.length:Int)==(many:Int)) with
    | true =>
     have he:bg.length=many:=by simp at he;omega
     refine ⟨[],by simp [castL],by simp;omega,.nil hw,fun _ _ _=>trivial⟩
    | false =>
     have he:bg.length≠many:=by simp at he;omega
     intro ws' hq
     cases hq with
     | nil _=>simp;omega
     | cons hf _ _ _=>rw [hw] at hf;cases hf
   | false =>
    cases he:((bg.length:Int)==(many:Int)) with
    | true =>
     have he:bg.length=many:=by simp at he;omega
     intro ws' hq
     cases hq with
     | nil hf=>rw [hw] at hf;cases hf
     | cons _ _ _ _=>simp;omega
    | false =>
     have he:bg.length≠many:=by simp at he;omega
     simp only [Bool.or_false]
     have ih:=fun (i:Nat) (to:Int)=>waysQ_ok (n:=n) (bl:=bl) (wt:=wt) (many:=many) r (bg++[(i:Int)]) (tanks++[to]) (by simp;omega) (by simp;omega)
     have hf:∀ (i:Nat) (to:Int),(waysQ n bl wt many r (bg++[(i:Int)]) (tanks++[to])).2=false→∀ ws',QP n bl wt (tanks++[to]) ws'→ws'.length+1≠many - bg.length:=fun i to h ws' hq=>by
      have:=ih i to
      obtain ⟨⟨l,b⟩,hr⟩:∃ y,waysQ n bl wt many r (bg++[(i:Int)]) (tanks++[to])=y:=⟨_,rfl⟩
      rw [hr] at h this
      have h:b=false:=h
      subst h
      have h3:=this ws' hq
      simp only [List.length_append,List.length_singleton] at h3
      omega
     cases hx:waysI n bl tanks (lastI tanks) (fun i to=>waysQ n bl wt many r (bg++[(i:Int)]) (tanks++[to])) n.pipes.length 0 with
     | none =>
      have hn:=waysI_none n.pipes.length 0 (by omega) hx
      intro ws' hq
      cases hq with
      | nil hf=>rw [hw] at hf;cases hf
      | @cons _ i p ws _ hp hs hq =>
       have:=hf i _ (hn i p (Nat.zero_le _) hp hs) _ hq
       simp only [List.length_cons]
       omega
     | some l =>
      obtain ⟨j,p,_,hp,hs,hr,hmin⟩:=waysI_some n.pipes.length 0 l (by omega) hx
      have h3:=ih j (otherI p (lastI tanks))
      rw [hr] at h3
      obtain ⟨ws,e1,e2,e3,e4⟩:=h3
      simp only [List.length_append,List.length_singleton] at e2
      refine ⟨j::ws,by rw [e1];simp [castL],by simp only [List.length_cons];omega,.cons hw hp hs e3,fun ws' hq hl=>?_⟩
      cases hq with
      | nil hf=>rw [hw] at hf;cases hf
      | @cons _ i q ws2 _ hq1 hq2 hq3 =>
       simp only [List.length_cons] at hl
       rcases Nat.lt_trichotomy i j with h | rfl | h
       ·have:=hf i _ (hmin i q (Nat.zero_le _) h hq1 hq2) _ hq3
        omega
       ·rw [hp] at hq1
        cases hq1
        exact .inr ⟨rfl,e4 _ hq3 (by omega)⟩
       ·exact .inl h

section
variable {n:Nt} {bl wt:List Int}
theorem skip_not (hn:n.Ok) {tanks:List Int} {a i:Nat} {p:Rp} (hl:lastI tanks=(a:Int)) (hp:n.pipes[i]?=some p):skipP n bl tanks (lastI tanks) p i=false ↔
    ∃ b:Nat,b<n.tanks.length∧otherI p (lastI tanks)=(b:Int)∧p.pp.ends a b∧(n.look bl wt).opN i=true∧hasI tanks (b:Int)=false∧(n.look bl wt).kept.testBit b=false:=by
  have hpe:=hn.pe p (List.mem_of_getElem? hp)
  have hop:(n.look bl wt).opN i=!(hasI bl i):=by
   rw [look_op hn.p,decide_eq_true (List.getElem?_eq_some_iff.1 hp).1,Bool.true_and]
  have e1:p.pp.fr=p.fr.toNat:=rfl
  have e2:p.pp.to=p.to.toNat:=rfl
  unfold skipP
  rw [hl]
  constructor
  ·intro h
   rw [Bool.or_eq_false_iff,Bool.or_eq_false_iff,Bool.or_eq_false_iff] at h
   obtain ⟨h1,h2,h3,h4⟩:=h
   have h1:=of_decide_eq_false h1
   obtain ⟨b,hb⟩:∃ b:Nat,otherI p (a:Int)=(b:Int):=⟨(otherI p (a:Int)).toNat,by omega⟩
   rw [hb] at h3 h4
   have he:p.pp.ends a b∧b<n.tanks.length:=by
    unfold Pp.ends
    rw [e1,e2]
    unfold otherI at hb
    split at hb
    ·exact ⟨.inl ⟨by omega,by omega⟩,by omega⟩
    ·split at hb
     ·exact ⟨.inr ⟨by omega,by omega⟩,by omega⟩
     ·omega
   refine ⟨b,he.2,hb,he.1,by rw [hop,h2];rfl,h3,?_⟩
   rw [← keepB_kept he.2];exact h4
  ·rintro ⟨b,h1,h2,_,h4,h5,h6⟩
   rw [h2,h5,keepB_kept (bl:=bl) (wt:=wt) h1,h6]
   rw [hop] at h4
   have:hasI bl i=false:=by simpa using h4
   rw [this,decide_eq_false (by omega)]
   rfl
theorem qp_wk (hn:n.Ok) (hin:inAll n.tanks.length wt):∀ {tanks:List Int} {ws:List Nat} {a:Nat},QP n bl wt tanks ws→lastI tanks=(a:Int)→a<7→(n.look bl wt).Wk ws.length a:=by
 intro tanks ws a h
 induction h generalizing a with
 | nil hw=>intro hl _;rw [hl,hasI_want (bl:=bl) hin] at hw;exact .zero hw
 | @cons tanks i p ws hw hp hs hq ih =>
  intro hl ha
  have h7:=hn.t7
  obtain ⟨b,h1,h2,h3,h4,h5,h6⟩:=(skip_not (wt:=wt) hn hl hp).1 hs
  have:=ih (a:=b) (by rw [lastI_snoc,h2]) (by omega)
  exact .step ⟨i,p.pp,by rw [look_pipe,hp];rfl,h4,h3⟩ h6 this
theorem qp_pth (hn:n.Ok) (hok:(n.look bl wt).Ok) (hin:inAll n.tanks.length wt):∀ {tanks:List Int} {ws:List Nat} {a:Nat},QP n bl wt tanks ws→lastI tanks=(a:Int)→a<7→ws.length≤n.tanks.length→(ws.length:Int)≤farAt (n.look bl wt).far a →
    (n.look bl wt).Pth a ws:=by
  intro tanks ws a h
  induction h generalizing a with
  | nil hw=>intro hl _ _ _;rw [hl,hasI_want (bl:=bl) hin] at hw;exact .nil hw
  | @cons tanks i p ws hw hp hs hq ih =>
   intro hl ha hle hfar
   have h7:=hn.t7
   obtain ⟨b,h1,h2,h3,h4,h5,h6⟩:=(skip_not (wt:=wt) hn hl hp).1 hs
   have hlb:lastI (tanks++[otherI p (lastI tanks)])=(b:Int):=by rw [lastI_snoc,h2]
   have hwk:=qp_wk hn hin hq hlb (by omega)
   simp only [List.length_cons] at hle hfar
   have hfb:=NetL.far_max hok (t:=ws.length) (v:=b) (by show _≤n.tanks.length;omega) (by omega) hwk
   have hadj:(n.look bl wt).adj a b:=⟨i,p.pp,by rw [look_pipe,hp];rfl,h4,h3⟩
   have hst:=NetL.far_step hok hadj h6 (by show _<((n.tanks.length:Nat):Int);omega)
   have hp':(n.look bl wt).pipes[i]?=some p.pp:=by rw [look_pipe,hp];rfl
   exact .cons hp' h4 h3 h6 (by omega) (ih hlb (by omega) (by omega) (by omega))
theorem pth_qp (hn:n.Ok) (hok:(n.look bl wt).Ok) (hin:inAll n.tanks.length wt):∀ {ws:List Nat} {a:Nat} (tanks:List Int),(n.look bl wt).Pth a ws→lastI tanks=(a:Int)→a<7→(∀ v:Nat,v<7→hasI tanks (v:Int)=true→farAt (n.look bl wt).far a≤farAt (n.look bl wt).far v)→QP n bl wt tanks ws:=by
 intro ws a tanks h
 have h7:=hn.t7
 induction h generalizing tanks with
 | nil hw=>intro hl _ _;exact .nil (by rw [hl,hasI_want (bl:=bl) hin];exact hw)
 | @cons a b i p ws hp ho he hk hf hq ih =>
  intro hl ha hall
  rw [look_pipe] at hp
  cases hq0:n.pipes[i]? with
  | none=>rw [hq0] at hp;cases hp
  | some q =>
   rw [hq0] at hp
   cases hp
   have hqe:=hn.pe q (List.mem_of_getElem? hq0)
   have e1:q.pp.fr=q.fr.toNat:=rfl
   have e2:q.pp.to=q.to.toNat:=rfl
   have hb:b<n.tanks.length∧otherI q (a:Int)=(b:Int):=by
    unfold Pp.ends at he
    rw [e1,e2] at he
    unfold otherI
    rcases he with ⟨x,y⟩ | ⟨x,y⟩
    ·rw [if_pos (by omega)];omega
    ·rw [if_neg (by omega),if_pos (by omega)];omega
   have hnh:hasI tanks (b:Int)=false:=by
    cases h:hasI tanks (b:Int) with
    | false=>rfl
    | true=>have:=hall b (by omega) h;omega
   have hskip:skipP n bl tanks (lastI tanks) q i=false:=(skip_not (wt:=wt) hn hl hq0).2 ⟨b,hb.1,by rw [hl];exact hb.2,he,ho,hnh,hk⟩
   have hnw:hasI wt (lastI tanks)=false:=by
    rw [hl,hasI_want (bl:=bl) hin]
    cases h:(n.look bl wt).wanted.testBit a with
    | false=>rfl
    | true =>
     have:=(NetL.far_zero hok ha).2 h
     have h3:=((n.look bl wt).far_ok hok).bnd b
     omega
   refine .cons hnw hq0 hskip (ih _ (by rw [lastI_snoc,hl];exact hb.2) (by omega) fun v hv h=>?_)
   rw [hasI_snoc,Bool.or_eq_true,hl,hb.2] at h
   rcases h with h | h
   ·have:=hall v hv h;omega
   ·have:v=b:=by have:=beq_iff_eq.1 h;omega
    subst this;omega

def GW (n:Nt) (bl wt:List Int) (many k:Nat) (ws:List Nat):Prop:=k<n.tanks.length∧n.keptB k=true∧QP n bl wt [(k:Int)] ws∧ws.length=many
theorem bestK_ok {many:Nat} (h8:many<8):∀ (c k:Nat) (best:List Int),k+c=n.tanks.length →
    ((best=[]∧∀ j ws,j<k→¬ GW n bl wt many j ws)∨∃ ws,best=castL ws∧ws.length=many∧(∃ j,GW n bl wt many j ws)∧∀ j ws',j<k→GW n bl wt many j ws'→lexle ws ws')→0<many →
    ((bestK n bl wt many c k best=[]∧∀ j ws,¬ GW n bl wt many j ws)∨∃ ws,bestK n bl wt many c k best=castL ws∧ws.length=many∧(∃ j,GW n bl wt many j ws)∧∀ j ws',GW n bl wt many j ws'→lexle ws ws')
  | 0,k,best,hk,h,_=>by
   rcases h with ⟨h1,h2⟩ | ⟨ws,h1,h2,h3,h4⟩
   ·exact .inl ⟨h1,fun j ws hg=>h2 j ws (by have:=hg.1;omega) hg⟩
   ·exact .inr ⟨ws,h1,h2,h3,fun j ws' hg=>h4 j ws' (by have:=hg.1;omega) hg⟩
  | c+1,k,best,hk,h,h0=>by
   unfold bestK
   cases hkb:n.keptB k with
   | false =>
    refine bestK_ok h8 c (k+1) best (by omega) ?_ h0
    have hno:∀ ws,¬ GW n bl wt many k ws:=fun ws hg=>by have:=hg.2.1;rw [hkb] at this;cases this
    rcases h with ⟨h1,h2⟩ | ⟨ws,h1,h2,h3,h4⟩
    ·refine .inl ⟨h1,fun j ws hj hg=>?_⟩
     by_cases e:j=k
     ·subst e;exact hno ws hg
     ·exact h2 j ws (by omega) hg
    ·refine .inr ⟨ws,h1,h2,h3,fun j ws' hj hg=>?_⟩
     by_cases e:j=k
     ·subst e;exact absurd hg (hno ws')
     ·exact h4 j ws' (by omega) hg
   | true =>
    have hq:=waysQ_ok (n:=n) (bl:=bl) (wt:=wt) (many:=many) 8 [] [(k:Int)] (Nat.zero_le _) (by simp;omega)
    obtain ⟨⟨l,b⟩,hr⟩:∃ y,waysQ n bl wt many 8 [] [(k:Int)]=y:=⟨_,rfl⟩
    rw [hr] at hq
    simp only
    rw [hr]
    cases b with
    | false =>
     have hq:∀ ws',QP n bl wt [(k:Int)] ws'→ws'.length≠many - 0:=hq
     refine bestK_ok h8 c (k+1) best (by omega) ?_ h0
     have hno:∀ ws,¬ GW n bl wt many k ws:=fun ws hg=>hq ws hg.2.2.1 (by rw [hg.2.2.2];omega)
     rcases h with ⟨h1,h2⟩ | ⟨ws,h1,h2,h3,h4⟩
     ·refine .inl ⟨h1,fun j ws hj hg=>?_⟩
      by_cases e:j=k
      ·subst e;exact hno ws hg
      ·exact h2 j ws (by omega) hg
     ·refine .inr ⟨ws,h1,h2,h3,fun j ws' hj hg=>?_⟩
      by_cases e:j=k
      ·subst e;exact absurd hg (hno ws')
      ·exact h4 j ws' (by omega) hg
    | true =>
     obtain ⟨ws1,e1,e2,e3,e4⟩:=hq
     simp only [List.nil_append] at e1
     have e2:ws1.length=many:=by simpa using e2
     have hg1:GW n bl wt many k ws1:=⟨by omega,hkb,e3,e2⟩
     have hmin1:∀ ws',GW n bl wt many k ws'→lexle ws1 ws':=fun ws' hg=>e4 ws' hg.2.2.1 (by rw [hg.2.2.2,e2])
     simp only
     rcases h with ⟨h1,h2⟩ | ⟨ws,h1,h2,h3,h4⟩
     ·subst h1
      refine bestK_ok h8 c (k+1) l (by omega) (.inr ⟨ws1,e1,e2,⟨k,hg1⟩,fun j ws' hj hg=>?_⟩) h0
      by_cases e:j=k
      ·subst e;exact hmin1 ws' hg
      ·exact absurd hg (h2 j ws' (by omega))
     ·have hne:((best.length:Int)==0)=false:=by rw [h1,castL_len,h2];simp;omega
      rw [hne,Bool.false_or,e1,h1]
      have hb:=before_le (a:=ws1) (b:=ws) (by omega)
      cases hbf:beforeI (castL ws1) (castL ws) with
      | true =>
       refine bestK_ok h8 c (k+1) _ (by omega) (.inr ⟨ws1,rfl,e2,⟨k,hg1⟩,fun j ws' hj hg=>?_⟩) h0
       by_cases e:j=k
       ·subst e;exact hmin1 ws' hg
       ·exact lexle_trans (by omega) (by rw [hg.2.2.2,h2]) (hb.1 hbf) (h4 j ws' (by omega) hg)
      | false =>
       refine bestK_ok h8 c (k+1) _ (by omega) (.inr ⟨ws,rfl,h2,h3,fun j ws' hj hg=>?_⟩) h0
       by_cases e:j=k
       ·subst e;exact lexle_trans (by omega) (by rw [hg.2.2.2,e2]) (hb.2 hbf) (hmin1 ws' hg)
       ·exact h4 j ws' (by omega) hg
end

theorem wayR_eq (n:Nt) (bl wt:List Int):n.wayR bl wt=n.wayN bl wt:=by
 unfold Nt.wayR Nt.wayN
 by_cases he:n.lookE bl wt true=0
 rotate_left
 ·rw [if_neg he,if_neg he]
 rw [if_pos he,if_pos he]
 obtain ⟨hn,_,hw⟩:=Nt.lookE_ok he
 have hw:=hw rfl
 have hin:=Nt.wantedE_in hw
 have hok:=Nt.look_ok hn bl hin
 have hfree:=look_free (n:=n) (bl:=bl) hw
 have h7:=hn.t7
 have h1:=hn.t1
 have hkept:∀ {k},k<n.tanks.length→n.keptB k=true→(n.look bl wt).kept.testBit k=true:=fun {k} a c=>by rw [kept_iff,decide_eq_true a,c];rfl
 have start:=fun many (h0:0<many) (h8:many<8)=>bestK_ok (n:=n) (bl:=bl) (wt:=wt) h8 n.tanks.length 0 [] (by omega) (.inl ⟨rfl,fun j ws h=>by omega⟩) h0
 have step:∀ r many:Nat,wayRF n bl wt (r+1) many=match decide (((bestK n bl wt many n.tanks.length 0 []).length:Int) > 0) with
     | true=>(bestK n bl wt many n.tanks.length 0 [],0)
     | false=>wayRF n bl wt r (many+1):=fun _ _=>rfl
 have empty:∀ r many:Nat,(∀ j ws,¬ GW n bl wt many j ws)→0<many→many<8→wayRF n bl wt (r+1) many=wayRF n bl wt r (many+1):=fun r many hno h0 h8=>by
  rw [step]
  rcases start many h0 h8 with ⟨e,_⟩ | ⟨ws,_,_,⟨j,hg⟩,_⟩
  ·rw [e];rfl
  ·exact absurd hg (hno j ws)
 cases hs:(n.look bl wt).separate with
 | true =>
  have hno:∀ many j ws,¬ GW n bl wt many j ws:=fun many j ws hg=>by
   have h2:=qp_wk hn hin hg.2.2.1 (a:=j) rfl (by have:=hg.1;omega)
   have:=wk_sep hok (hkept hg.1 hg.2.1) h2
   rw [hs] at this;cases this
  have key:∀ r many:Nat,0<many→many+r≤8→wayRF n bl wt r many=([],4):=by
   intro r
   induction r with
   | zero=>intro _ _ _;rfl
   | succ r ih=>intro many h0 h8;rw [empty r many (hno many) h0 (by omega)];exact ih _ (by omega) (by omega)
  exact key _ _ (by omega) (by omega)
 | false =>
  obtain ⟨⟨k0,hk0,hp0⟩,hlen,hbt,hle,hmin⟩:=NetL.way_ok hok (want_in hin) hs
  have htl:((n.look bl wt).tanks.length:Int)=n.tanks.length:=rfl
  obtain ⟨way,hway⟩:∃ x,(n.look bl wt).way=x:=⟨_,rfl⟩
  rw [hway] at hp0 hlen hmin
  have hk07:=bit_lt hok.k hk0
  have hk0n:k0<n.tanks.length∧n.keptB k0=true:=by
   rw [kept_iff,Bool.and_eq_true] at hk0
   exact ⟨of_decide_eq_true hk0.1,hk0.2⟩
  have hq0:QP n bl wt [(k0:Int)] way:=pth_qp hn hok hin _ hp0 rfl hk07 fun v hv h=>by
   unfold hasI at h
   simp only [List.any_cons,List.any_nil,Bool.or_false,beq_iff_eq] at h
   have:v=k0:=by omega
   subst this;omega
  have hgw0:GW n bl wt way.length k0 way:=⟨hk0n.1,hk0n.2,hq0,rfl⟩
  have hpos:0<way.length:=by
   cases hq0 with
   | nil hw0 =>
    rw [show lastI [(k0:Int)]=(k0:Int) from rfl,hasI_want (bl:=bl) hin] at hw0
    have:=hfree k0 hw0
    rw [hk0] at this;cases this
   | cons _ _ _ _=>simp
  have hshort:∀ many j ws,GW n bl wt many j ws→way.length≤many:=fun many j ws hg=>by
   have h2:=qp_wk hn hin hg.2.2.1 (a:=j) rfl (by have:=hg.1;omega)
   have h3:=hle j (hkept hg.1 hg.2.1)
   by_cases hm:ws.length≤n.tanks.length
   ·have h4:=NetL.far_max hok (t:=ws.length) (v:=j) hm (by have:=hg.1;omega) h2
    have:=hg.2.2.2
    omega
   ·have:=hg.2.2.2
    omega
  have hall:∀ j ws,GW n bl wt way.length j ws→lexle way ws:=fun j ws hg=>by
   have h3:=hle j (hkept hg.1 hg.2.1)
   have h2:=qp_wk hn hin hg.2.2.1 (a:=j) rfl (by have:=hg.1;omega)
   have h4:=NetL.far_max hok (t:=ws.length) (v:=j) (by show _≤n.tanks.length;rw [hg.2.2.2];omega) (by have:=hg.1;omega) h2
   have h5:=hg.2.2.2
   refine hmin j ws (hkept hg.1 hg.2.1) (by omega) ?_
   exact qp_pth hn hok hin hg.2.2.1 rfl (by have:=hg.1;omega) (by omega) (by omega)
  have key:∀ r many:Nat,0<many→many≤way.length→way.length<many+r→wayRF n bl wt r many=(castL way,0):=by
   intro r
   induction r with
   | zero=>intro many _ _ _;omega
   | succ r ih =>
    intro many h0 h2 h3
    by_cases e:many=way.length
    ·subst e
     rw [step]
     rcases start way.length h0 (by omega) with ⟨_,hno⟩ | ⟨ws,e1,e2,⟨j,hg⟩,hm⟩
     ·exact absurd hgw0 (hno k0 way)
     ·have:ws=way:=lexle_anti e2 (hm k0 way hgw0) (hall j ws hg)
      subst this
      rw [e1,castL_len,decide_eq_true (by omega)]
    ·rw [empty r many (fun j ws hg=>by have:=hshort many j ws hg;omega) h0 (by omega)]
     exact ih _ (by omega) (by omega) (by omega)
  simp only
  rw [key (n.tanks.length - 1) 1 (by omega) (by omega) (by omega),hway]
  rfl

end Go.Proofs.Vent
