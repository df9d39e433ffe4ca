/- vent: after steps no free tank without a blower is joined by one open pipe to a tank that is not free; a tank with a blower is free. No condition. -/
import Derived.Test.YtfdflbdnjimfaaaRows
import Derived.Test.YtfdflbdnjimfaaaPackTN
import Derived.Test.YtfdflbdnjimfaaaPackTG
import Derived.Test.YtfdflbdnjimfaaaPackUM

namespace Go.Proofs.Ytfdflbdnjimfaaa
open Go.V Go.Proofs Go.Proofs.Vent

set_option maxRecDepth 100000 in
theorem law_den (es:List D) (h:WAL Try.prog 10 Try.f13.params.toList es):Den Try.prog 13 es (.bool true):=by
  rw [Try.params13] at h
  obtain ⟨d1,r1,rfl,h1,d2,r2,rfl,h2,d3,r3,rfl,h3,rfl⟩:=h
  obtain ⟨n,rfl⟩:=net_of h1
  obtain ⟨bl,rfl,hb⟩:=ints_of h2
  obtain ⟨xs,rfl,hx,h8⟩:=bytes_of h3
  exact den13 n bl xs (len62 hb) (len62 hx) h8

set_option maxRecDepth 100000 in
theorem law_lifted (os:Os) (started:os.Started) (H:Type) (enc:TypeId × Value→H) :
    ReturnsInHanded {} Try.checked os 13 .any (Rows.ventSpreadSpec.pre6 enc Try.prog Try.f13 Rows.ventSpreadRow.domain false) (Rows.ventSpreadSpec.post enc Try.prog Try.f13 false true false false) :=
  law_returns' (C:=Try.checked) hgl 10 rfl (fun ds hd=>by
      match ds,hd with
      | [_,_,_],_=>rfl) Vent.Try.own started (by kernel_rfl) Try.func13
    (ChangeSpec.witness6 (enc:=enc) (C:=Try.checked) false ⟨#[],#[.agg #[.slice none 0 0,.slice none 0 0],.slice none 0 0,.slice none 0 0],[]⟩ 8 (by kernel_rfl) (by kernel_rfl) (by kernel_rfl) (by kernel_rfl))
    rfl Try.underlying4 Vent.Try.laidOut (by kernel_rfl) law_den

theorem spread_holds:Rows.VentSpreadSaid :=
  OpenClaim.holds_of_wide 13 Try.f13 rfl rfl rfl rfl rfl rfl rfl ⟨rfl,rfl,rfl,rfl,rfl⟩ rfl rfl rfl rfl rfl (by kernel_rfl) Try.func13 (by kernel_rfl)
    (of_decide_eq_true (by kernel_rfl)) (by unfold Func.isWrapper;first | (rw [if_neg (by decide +kernel)];exact ⟨rfl,rfl⟩) | (rw [if_pos (by decide +kernel)];kernel_rfl))
    (fun os started H enc _=>law_lifted os started H enc)

end Go.Proofs.Ytfdflbdnjimfaaa
