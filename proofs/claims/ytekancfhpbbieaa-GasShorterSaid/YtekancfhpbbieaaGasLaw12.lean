/- gas: the more a reading shows the shorter it holds; if it is the only one, a torch may burn at least as long as it holds. No condition. -/
import Derived.Test.YtekancfhpbbieaaRows
import Derived.Test.YtekancfhpbbieaaPackGP
import Derived.Test.YtekancfhpbbieaaPackGN
import Derived.Test.YtekancfhpbbieaaPackGF

namespace Go.Proofs.Ytekancfhpbbieaa
open Go.V Go.Proofs Go.Proofs.Gas

set_option maxRecDepth 100000 in
theorem law_den (es : List D) (h : WAL Try.prog 10 Try.f14.params.toList es) : Den Try.prog 14 es (.bool true) := by
  rw [Try.params14] at h
  obtain ⟨d1, r1, rfl, h1, d2, r2, rfl, h2, rfl⟩ := h
  obtain ⟨s, rfl, _⟩ := space_of h1
  obtain ⟨a, b, c, d, rfl, ha, hb, hc, hd⟩ := x4b_of h2
  exact den14 s a b c d ha hb hc hd

set_option maxRecDepth 100000 in
theorem law_lifted (os : Os) (started : os.Started) (H : Type) (enc : TypeId × Value → H) :
    ReturnsInHanded {} Try.checked os 14 .any (Rows.gasShorterSpec.pre6 enc Try.prog Try.f14 Rows.gasShorterRow.domain false) (Rows.gasShorterSpec.post enc Try.prog Try.f14 false true false false) :=
  law_returns' (C := Try.checked) 10 rfl (fun ds hd => by
      match ds, hd with
      | [_, _], _ => rfl) Try.own started (by kernel_rfl) Try.func14
    (ChangeSpec.witness6 (enc := enc) (C := Try.checked) false ⟨#[], #[.agg #[.int .i64 0, .int .i64 0, .int .i64 0, .int .i64 0, .int .i64 0, .int .i64 0, .int .i64 0, .slice none 0 0, .slice none 0 0], .agg #[.int .u8 0, .int .u8 0, .int .u8 0, .int .u8 0]], []⟩ 8 (by kernel_rfl) (by kernel_rfl) (by kernel_rfl) (by kernel_rfl))
    rfl Try.underlying4 Try.laidOut (by kernel_rfl) law_den

theorem shorter_holds : Rows.GasShorterSaid :=
  OpenClaim.holds_of_wide 14 Try.f14 rfl rfl rfl rfl rfl rfl rfl ⟨rfl, rfl, rfl, rfl, rfl⟩ rfl rfl rfl rfl rfl (by kernel_rfl) Try.func14 (by kernel_rfl)
    (of_decide_eq_true (by kernel_rfl)) (by unfold Func.isWrapper; rw [if_neg (by decide +kernel)]; exact ⟨rfl, rfl⟩)
    (fun os started H enc _ => law_lifted os started H enc)

end Go.Proofs.Ytekancfhpbbieaa
