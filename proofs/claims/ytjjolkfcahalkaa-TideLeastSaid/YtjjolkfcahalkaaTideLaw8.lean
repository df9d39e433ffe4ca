/- tide: with the ballast of Least a ship stops within the marks in any truth, with less there is a truth in which she does not, and with ErrDown there is such a truth for any ballast. No condition. -/
import Derived.Test.YtjjolkfcahalkaaRows
import Derived.Test.YtjjolkfcahalkaaPackTJ
import Derived.Test.YtjjolkfcahalkaaPackTK

namespace Go.Proofs.Ytjjolkfcahalkaa
open Go.V Go.Proofs Go.Proofs.Tide

set_option maxRecDepth 100000 in
theorem law_den (es : List D) (h : WAL Try.prog 10 Try.f10.params.toList es) : Den Try.prog 10 es (.bool true) := by
  rw [Try.params10] at h
  obtain ⟨d1, r1, rfl, h1, d2, r2, rfl, h2, d3, r3, rfl, h3, rfl⟩ := h
  obtain ⟨b, rfl, _⟩ := be_of h1
  obtain ⟨s, rfl⟩ := sh_of h2
  obtain ⟨x, y, xs, rfl, hx, hy, hl, hxs⟩ := asked_of h3
  exact den10 b s x y xs hx hy.1 hy.2 hxs hl

set_option maxRecDepth 100000 in
theorem law_lifted (os : Os) (started : os.Started) (H : Type) (enc : TypeId × Value → H) :
    ReturnsInHanded {} Try.checked os 10 .any (Rows.tideLeastSpec.pre6 enc Try.prog Try.f10 Rows.tideLeastRow.domain false) (Rows.tideLeastSpec.post enc Try.prog Try.f10 false true false false) :=
  law_returns' (C := Try.checked) 10 rfl (fun ds hd => by
      match ds, hd with
      | [_, _, _], _ => rfl) Try.own started (by kernel_rfl) Try.func10
    (ChangeSpec.witness6 (enc := enc) (C := Try.checked) false ⟨#[], #[.agg #[.int .i64 0, .int .i64 0, .int .i64 0, .int .i64 0, .int .i64 0, .slice none 0 0], .agg #[.int .i64 0, .int .i64 0, .int .i64 0], .agg #[.int .u8 0, .int .u8 0, .slice none 0 0]], []⟩ 8 (by kernel_rfl) (by kernel_rfl) (by kernel_rfl) (by kernel_rfl))
    rfl Try.underlying4 Try.laidOut (by kernel_rfl) law_den

theorem least_holds : Rows.TideLeastSaid :=
  OpenClaim.holds_of_wide 10 Try.f10 rfl rfl rfl rfl rfl rfl rfl ⟨rfl, rfl, rfl, rfl, rfl⟩ rfl rfl rfl rfl rfl (by kernel_rfl) Try.func10 (by kernel_rfl)
    (of_decide_eq_true (by kernel_rfl)) (by unfold Func.isWrapper; rw [if_neg (by decide +kernel)]; exact ⟨rfl, rfl⟩)
    (fun os started H enc _ => law_lifted os started H enc)

end Go.Proofs.Ytjjolkfcahalkaa
