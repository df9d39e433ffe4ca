/- vent: two tanks are joined just if Joined returns the same of them; with one more blank no tanks are joined that were not, and no more blowers are needed. No condition. -/
import Derived.Test.YtfdflbdnjimfaaaRows
import Derived.Test.YtfdflbdnjimfaaaPackSC
import Derived.Test.YtfdflbdnjimfaaaPackTG
import Derived.Test.YtfdflbdnjimfaaaPackUM

namespace Go.Proofs.Ytfdflbdnjimfaaa
open Go.V Go.Proofs Go.Proofs.Vent

set_option maxRecDepth 100000 in
theorem law_den (es:List D) (h:WAL Try.prog 10 Try.f12.params.toList es):Den Try.prog 12 es (.bool true):=by
  rw [Try.params12] at h
  obtain ⟨d1,r1,rfl,h1,d2,r2,rfl,h2,d3,r3,rfl,h3,rfl⟩:=h
  obtain ⟨n,rfl⟩:=net_of h1
  obtain ⟨bl,wt,k,rfl,hb,hw⟩:=asked_of h2
  obtain ⟨a0,b0,c0,rfl,ha,hb0,hc0⟩:=x3_of h3
  exact den12 n bl wt k a0 b0 c0 (len62 hb) (len62 hw) ha hb0 hc0

set_option maxRecDepth 100000 in
theorem law_lifted (os:Os) (started:os.Started) (H:Type) (enc:TypeId × Value→H) :
    ReturnsInHanded {} Try.checked os 12 .any (Rows.ventJoinedSpec.pre6 enc Try.prog Try.f12 Rows.ventJoinedRow.domain false) (Rows.ventJoinedSpec.post enc Try.prog Try.f12 false true false false) :=
  law_returns' (C:=Try.checked) hgl 10 rfl (fun ds hd=>by
      match ds,hd with
      | [_,_,_],_=>rfl) Vent.Try.own started (by kernel_rfl) Try.func12
    (ChangeSpec.witness6 (enc:=enc) (C:=Try.checked) false ⟨#[],#[.agg #[.slice none 0 0,.slice none 0 0],.agg #[.slice none 0 0,.slice none 0 0,.int .i64 0],.agg #[.int .u8 0,.int .u8 0,.int .u8 0]],[]⟩ 8 (by kernel_rfl) (by kernel_rfl) (by kernel_rfl) (by kernel_rfl))
    rfl Try.underlying4 Vent.Try.laidOut (by kernel_rfl) law_den

theorem joined_holds:Rows.VentJoinedSaid :=
  OpenClaim.holds_of_wide 12 Try.f12 rfl rfl rfl rfl rfl rfl rfl ⟨rfl,rfl,rfl,rfl,rfl⟩ rfl rfl rfl rfl rfl (by kernel_rfl) Try.func12 (by kernel_rfl)
    (of_decide_eq_true (by kernel_rfl)) (by unfold Func.isWrapper;first | (rw [if_neg (by decide +kernel)];exact ⟨rfl,rfl⟩) | (rw [if_pos (by decide +kernel)];kernel_rfl))
    (fun os started H enc _=>law_lifted os started H enc)

end Go.Proofs.Ytfdflbdnjimfaaa
