/- vent: Plan and Fewest return what the document says. No condition. -/
import Derived.Test.YtfdflbdnjimfaaaRows
import Derived.Test.YtfdflbdnjimfaaaPackSP
import Derived.Test.YtfdflbdnjimfaaaPackTG
import Derived.Test.YtfdflbdnjimfaaaPackUM

namespace Go.Proofs.Ytfdflbdnjimfaaa
open Go.V Go.Proofs Go.Proofs.Vent

set_option maxRecDepth 100000 in
theorem law_den (es:List D) (h:WAL Try.prog 10 Try.f5.params.toList es):Den Try.prog 5 es (.bool true):=by
 rw [Try.params5] at h
 obtain ⟨d1,r1,rfl,h1,d2,r2,rfl,h2,rfl⟩:=h
 obtain ⟨n,rfl⟩:=net_of h1
 obtain ⟨bl,wt,k,rfl,hb,hw⟩:=asked_of h2
 exact den5 n bl wt k (len62 hb) (len62 hw)

set_option maxRecDepth 100000 in
theorem law_lifted (os:Os) (started:os.Started) (H:Type) (enc:TypeId × Value→H) :
    ReturnsInHanded {} Try.checked os 5 .any (Rows.ventPlansSpec.pre6 enc Try.prog Try.f5 Rows.ventPlansRow.domain false) (Rows.ventPlansSpec.post enc Try.prog Try.f5 false true false false) :=
  law_returns' (C:=Try.checked) hgl 10 rfl (fun ds hd=>by
      match ds,hd with
      | [_,_],_=>rfl) Vent.Try.own started (by kernel_rfl) Try.func5
    (ChangeSpec.witness6 (enc:=enc) (C:=Try.checked) false ⟨#[],#[.agg #[.slice none 0 0,.slice none 0 0],.agg #[.slice none 0 0,.slice none 0 0,.int .i64 0]],[]⟩ 8 (by kernel_rfl) (by kernel_rfl) (by kernel_rfl) (by kernel_rfl))
    rfl Try.underlying4 Vent.Try.laidOut (by kernel_rfl) law_den

theorem plans_holds:Rows.VentPlansSaid :=
 OpenClaim.holds_of_wide 5 Try.f5 rfl rfl rfl rfl rfl rfl rfl ⟨rfl,rfl,rfl,rfl,rfl⟩ rfl rfl rfl rfl rfl (by kernel_rfl) Try.func5 (by kernel_rfl)
  (of_decide_eq_true (by kernel_rfl)) (by unfold Func.isWrapper;first | (rw [if_neg (by decide +kernel)];exact ⟨rfl,rfl⟩) | (rw [if_pos (by decide +kernel)];kernel_rfl))
  (fun os started H enc _=>law_lifted os started H enc)

end Go.Proofs.Ytfdflbdnjimfaaa
