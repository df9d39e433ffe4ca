/- vent: the ways of Ways are as many as the blanks of Blanks, and accepted by Proves; accepted ways prove that no fewer blanks do. No condition. -/
import Derived.Test.YtfdflbdnjimfaaaRows
import Derived.Test.YtfdflbdnjimfaaaPackTW
import Derived.Test.YtfdflbdnjimfaaaPackTG
import Derived.Test.YtfdflbdnjimfaaaPackUM

namespace Go.Proofs.Ytfdflbdnjimfaaa
open Go.V Go.Proofs Go.Proofs.Vent

set_option maxRecDepth 100000 in
theorem law_den (es:List D) (h:WAL Try.prog 10 Try.f8.params.toList es):Den Try.prog 8 es (.bool true):=by
  rw [Try.params8] at h
  obtain ⟨d1,r1,rfl,h1,d2,r2,rfl,h2,d3,r3,rfl,h3,rfl⟩:=h
  obtain ⟨n,rfl⟩:=net_of h1
  obtain ⟨wt,rfl,hw⟩:=ints_of h2
  obtain ⟨ways,B,rfl,hy,hy1⟩:=proof_of h3
  exact den8 n wt ways B (len62 hw) (len62 hy) fun w hm=>len62 (hy1 w hm)

set_option maxRecDepth 100000 in
theorem law_lifted (os:Os) (started:os.Started) (H:Type) (enc:TypeId × Value→H) :
    ReturnsInHanded {} Try.checked os 8 .any (Rows.ventProvedSpec.pre6 enc Try.prog Try.f8 Rows.ventProvedRow.domain false) (Rows.ventProvedSpec.post enc Try.prog Try.f8 false true false false) :=
  law_returns' (C:=Try.checked) hgl 10 rfl (fun ds hd=>by
      match ds,hd with
      | [_,_,_],_=>rfl) Vent.Try.own started (by kernel_rfl) Try.func8
    (ChangeSpec.witness6 (enc:=enc) (C:=Try.checked) false ⟨#[],#[.agg #[.slice none 0 0,.slice none 0 0],.slice none 0 0,.agg #[.slice none 0 0,.int .u16 0]],[]⟩ 8 (by kernel_rfl) (by kernel_rfl) (by kernel_rfl) (by kernel_rfl))
    rfl Try.underlying4 Vent.Try.laidOut (by kernel_rfl) law_den

theorem proved_holds:Rows.VentProvedSaid :=
  OpenClaim.holds_of_wide 8 Try.f8 rfl rfl rfl rfl rfl rfl rfl ⟨rfl,rfl,rfl,rfl,rfl⟩ rfl rfl rfl rfl rfl (by kernel_rfl) Try.func8 (by kernel_rfl)
    (of_decide_eq_true (by kernel_rfl)) (by unfold Func.isWrapper;first | (rw [if_neg (by decide +kernel)];exact ⟨rfl,rfl⟩) | (rw [if_pos (by decide +kernel)];kernel_rfl))
    (fun os started H enc _=>law_lifted os started H enc)

end Go.Proofs.Ytfdflbdnjimfaaa
