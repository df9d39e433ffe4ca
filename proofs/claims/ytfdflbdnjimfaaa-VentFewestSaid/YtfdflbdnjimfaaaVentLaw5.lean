/- vent: behind the blanks of Blanks no wanted tank is joined to a kept one; behind any fewer blanks some wanted tank is. No condition. -/
import Derived.Test.YtfdflbdnjimfaaaRows
import Derived.Test.YtfdflbdnjimfaaaPackTT
import Derived.Test.YtfdflbdnjimfaaaPackTG
import Derived.Test.YtfdflbdnjimfaaaPackUM

namespace Go.Proofs.Ytfdflbdnjimfaaa
open Go.V Go.Proofs Go.Proofs.Vent

set_option maxRecDepth 100000 in
theorem law_den (es:List D) (h:WAL Try.prog 10 Try.f7.params.toList es):Den Try.prog 7 es (.bool true):=by
  rw [Try.params7] at h
  obtain ⟨d1,r1,rfl,h1,d2,r2,rfl,h2,d3,r3,rfl,h3,rfl⟩:=h
  obtain ⟨n,rfl⟩:=net_of h1
  obtain ⟨wt,rfl,hw⟩:=ints_of h2
  obtain ⟨B,rfl⟩:=bits_of h3
  exact den7 n wt B (len62 hw)

set_option maxRecDepth 100000 in
theorem law_lifted (os:Os) (started:os.Started) (H:Type) (enc:TypeId × Value→H) :
    ReturnsInHanded {} Try.checked os 7 .any (Rows.ventFewestSpec.pre6 enc Try.prog Try.f7 Rows.ventFewestRow.domain false) (Rows.ventFewestSpec.post enc Try.prog Try.f7 false true false false) :=
  law_returns' (C:=Try.checked) hgl 10 rfl (fun ds hd=>by
      match ds,hd with
      | [_,_,_],_=>rfl) Vent.Try.own started (by kernel_rfl) Try.func7
    (ChangeSpec.witness6 (enc:=enc) (C:=Try.checked) false ⟨#[],#[.agg #[.slice none 0 0,.slice none 0 0],.slice none 0 0,.int .u16 0],[]⟩ 8 (by kernel_rfl) (by kernel_rfl) (by kernel_rfl) (by kernel_rfl))
    rfl Try.underlying4 Vent.Try.laidOut (by kernel_rfl) law_den

theorem fewest_holds:Rows.VentFewestSaid :=
  OpenClaim.holds_of_wide 7 Try.f7 rfl rfl rfl rfl rfl rfl rfl ⟨rfl,rfl,rfl,rfl,rfl⟩ rfl rfl rfl rfl rfl (by kernel_rfl) Try.func7 (by kernel_rfl)
    (of_decide_eq_true (by kernel_rfl)) (by unfold Func.isWrapper;first | (rw [if_neg (by decide +kernel)];exact ⟨rfl,rfl⟩) | (rw [if_pos (by decide +kernel)];kernel_rfl))
    (fun os started H enc _=>law_lifted os started H enc)

end Go.Proofs.Ytfdflbdnjimfaaa
