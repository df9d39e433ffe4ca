/- TopBallasted: how much heavier a part may grow and the ship still stand. No condition. -/
import Derived.Test.YthglcafppddedaaGreatDoorPackLA
import Derived.Test.YthglcafppddedaaGreatDoorPackLC
import Derived.Test.YthglcafppddedaaGreatDoorPackLB

set_option linter.all false
set_option maxRecDepth 100000
namespace Go.Proofs.YthglcafppddedaaGreatDoor
open Go.V Go.Proofs Go.Proofs.Ball Go.RowKit Go.ChangeShapes Go.WideShapes Go.ChangeAt
theorem O4(es:List D)(h:YZ Tryz.prog 10 Tryz.f3.params.toList es):Den Tryz.prog 3 es (.bool true):=by
 rw[Tryz.params3]at h;obtain⟨d1,r1,rfl,h1,d2,r2,rfl,h2,rfl⟩:=h;obtain⟨t,rfl,hs,hb,cH⟩:=OR h1;obtain⟨x,y,rfl,hx,hy⟩:=Tv h2;exact aba t hs (X0 t.net t.blanks t.steps (by unfold maxLen at hb;omega) (by unfold maxLen at cH;omega)) abD x y hx hy
abbrev Dq:Array Value:=#[.agg #[.slice none 0 0,.slice none 0 0,.int .i64 0,.int .i64 0,.int .i64 0,.int .i64 0,.slice none 0 0,.slice none 0 0,.slice none 0 0,.slice none 0 0,.slice none 0 0],.agg #[.int .u8 0,.int .u8 0]]
noncomputable abbrev yP(os:Os):World:=World.laidAll Tryz.prog os Rows.topBallastedRow.laid
theorem O5(os:Os):laidMet Tryz.prog Rows.topBallastedRow.laid ((yP os).forCall (λ_ _=>0) ⟨#[],Dq,[]⟩).memory:=
 laidMet_laidAll _ (by kernel_rfl) (by kernel_rfl)
theorem FK(os:Os)(started:os.Started)(H:Type)(enc:TypeId×Value->H)(F:Stop.Interp):
    ReturnsInHanded {} Tryz.checked os 3 .any ((OpenSpec.ofChange Rows.topBallastedSpec).preRow enc Tryz.prog Tryz.f3 Rows.topBallastedRow.domain false Rows.topBallastedRow.laid) (((OpenSpec.ofChange Rows.topBallastedSpec).at F).post enc Tryz.prog Tryz.f3 false true false false):=
  su (C:=Tryz.checked) (F:=F) Gh 10 rfl (λds hd=>by
      match ds,hd with
      |[_,_],_=>rfl) Tryz.own started (by kernel_rfl) Tryz.func3
    (witness_row_at (enc:=enc) (C:=Tryz.checked) false (yP os) Dq rfl (by kernel_rfl) (by kernel_rfl) (by kernel_rfl)
     (OpenSpec.preRow_of_B rfl 8 (by kernel_rfl) (by kernel_rfl) (O5 os)))
    rfl Tryz.underlying4 Tryz.laidOut (by kernel_rfl) O4
theorem MS:Rows.TopBallastedSaid:=
 OpenClaim.holds_of_cond 3 Tryz.f3 rfl rfl rfl rfl rfl rfl rfl ⟨rfl,rfl,rfl,rfl,rfl⟩ rfl rfl rfl rfl rfl (by kernel_rfl) Tryz.func3 FJ
  (of_decide_eq_true (by kernel_rfl)) (by unfold Func.isWrapper;first|(rw[if_pos (by decide+kernel)];kernel_rfl)|(rw[if_neg (by decide+kernel)];exact⟨rfl,rfl⟩))
  (λos started H enc _ F=>by rw[OpenClaim.pre_eq_preRow];exact FK os started H enc F)
theorem I8(f:FuncId)(fn:Func)(hf:Tryz.pinned.checked.prog.funcNamed "orlop/orloptop.TopBallasted"=some f)(Ue:Tryz.pinned.checked.prog.funcs[f]?=some fn):
    true=Tryz.pinned.checked.prog.looks []/\∀(j:Nat) t,fn.params[j]?=some t->Tryz.pinned.checked.prog.wantsStandIn t=false:=by
  obtain rfl:f=3:=Option.some.inj ((show Tryz.prog.funcNamed "orlop/orloptop.TopBallasted"=some 3 by kernel_rfl).symm.trans hf)|>.symm
  obtain rfl:fn=Tryz.f3:=(Option.some.inj (Tryz.func3.symm.trans Ue)).symm;refine⟨by kernel_rfl,λj t ht=>?_⟩;have h:∀t∈Tryz.f3.params.toList,Tryz.prog.wantsStandIn t=false:=by
   rw[Tryz.params3];exact List.all_eq_true.1 (show([38,39]:List TypeId).all (λt=>!(Tryz.prog.wantsStandIn t))=true by kernel_rfl)|>λh t ht=>by simpa using h t ht
  exact h t (by simpa using Array.mem_of_getElem? ht)
theorem ballasted_holds:Rows.TopBallastedCardSaid:=
 Claim7.holds_tied_plain_at .later [] _ _ _ _ MS (λ_ h=>by cases h) (by kernel_rfl) (λ_ h=>by cases h) topBallasted_row_tie rfl ⟨rfl,rfl⟩ (by kernel_rfl) rfl I8 (by kernel_rfl)
end Go.Proofs.YthglcafppddedaaGreatDoor
