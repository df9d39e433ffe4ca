/- tide: if all heights and all drafts are more by the same number a ship stops at the same positions. No condition. -/
import Derived.Test.YtjjolkfcahalkaaRows
import Derived.Test.YtjjolkfcahalkaaPackTM
import Derived.Test.YtjjolkfcahalkaaPackTK

namespace Go.Proofs.Ytjjolkfcahalkaa
open Go.V Go.Proofs Go.Proofs.Tide

set_option maxRecDepth 100000 in
theorem law_den (es : List D) (h : WAL Try.prog 10 Try.f15.params.toList es) : Den Try.prog 15 es (.bool true) := by
  rw [Try.params15] at h
  obtain ⟨d1, r1, rfl, h1, d2, r2, rfl, h2, d3, r3, rfl, h3, rfl⟩ := h
  obtain ⟨b, rfl, _⟩ := be_of h1
  obtain ⟨s, rfl⟩ := sh_of h2
  obtain ⟨xs, x, y, rfl, hx, hx1, hy⟩ := more_of h3
  exact den15 b s xs x y hx.1 hx.2 hx1 hy.1 hy.2

set_option maxRecDepth 100000 in
theorem law_lifted (os : Os) (started : os.Started) (H : Type) (enc : TypeId × Value → H) :
    ReturnsInHanded {} Try.checked os 15 .any (Rows.tideMovedSpec.pre6 enc Try.prog Try.f15 Rows.tideMovedRow.domain false) (Rows.tideMovedSpec.post enc Try.prog Try.f15 false true false false) :=
  law_returns' (C := Try.checked) 10 rfl (fun ds hd => by
      match ds, hd with
      | [_, _, _], _ => rfl) Try.own started (by kernel_rfl) Try.func15
    (ChangeSpec.witness6 (enc := enc) (C := Try.checked) false ⟨#[], #[.agg #[.int .i64 0, .int .i64 0, .int .i64 0, .int .i64 0, .int .i64 0, .slice none 0 0], .agg #[.int .i64 0, .int .i64 0, .int .i64 0], .agg #[.slice none 0 0, .int .u8 0, .int .u8 0]], []⟩ 8 (by kernel_rfl) (by kernel_rfl) (by kernel_rfl) (by kernel_rfl))
    rfl Try.underlying4 Try.laidOut (by kernel_rfl) law_den

theorem moved_holds : Rows.TideMovedSaid :=
  OpenClaim.holds_of_wide 15 Try.f15 rfl rfl rfl rfl rfl rfl rfl ⟨rfl, rfl, rfl, rfl, rfl⟩ rfl rfl rfl rfl rfl (by kernel_rfl) Try.func15 (by kernel_rfl)
    (of_decide_eq_true (by kernel_rfl)) (by unfold Func.isWrapper; rw [if_neg (by decide +kernel)]; exact ⟨rfl, rfl⟩)
    (fun os started H enc _ => law_lifted os started H enc)

end Go.Proofs.Ytjjolkfcahalkaa
