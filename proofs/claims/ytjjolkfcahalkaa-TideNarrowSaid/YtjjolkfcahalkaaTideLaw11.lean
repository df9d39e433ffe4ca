/- tide: with narrower ranges no range of Stops or Lies is wider, and a ship still surely stops within the marks where she did, as she does with wider marks. No condition. -/
import Derived.Test.YtjjolkfcahalkaaRows
import Derived.Test.YtjjolkfcahalkaaPackTL
import Derived.Test.YtjjolkfcahalkaaPackTK

namespace Go.Proofs.Ytjjolkfcahalkaa
open Go.V Go.Proofs Go.Proofs.Tide

set_option maxRecDepth 100000 in
theorem law_den (es : List D) (h : WAL Try.prog 10 Try.f14.params.toList es) : Den Try.prog 14 es (.bool true) := by
  rw [Try.params14] at h
  obtain ⟨d1, r1, rfl, h1, d2, r2, rfl, h2, d3, r3, rfl, h3, rfl⟩ := h
  obtain ⟨b, rfl, _⟩ := be_of h1
  obtain ⟨s, rfl⟩ := sh_of h2
  obtain ⟨xs, ys, t, rfl, hx, hy, ht⟩ := pulled_of h3
  exact den14 b s xs ys t hx.1 hx.2 hy.1 hy.2 ht.1 ht.2

set_option maxRecDepth 100000 in
theorem law_lifted (os : Os) (started : os.Started) (H : Type) (enc : TypeId × Value → H) :
    ReturnsInHanded {} Try.checked os 14 .any (Rows.tideNarrowSpec.pre6 enc Try.prog Try.f14 Rows.tideNarrowRow.domain false) (Rows.tideNarrowSpec.post enc Try.prog Try.f14 false true false false) :=
  law_returns' (C := Try.checked) 10 rfl (fun ds hd => by
      match ds, hd with
      | [_, _, _], _ => rfl) Try.own started (by kernel_rfl) Try.func14
    (ChangeSpec.witness6 (enc := enc) (C := Try.checked) false ⟨#[], #[.agg #[.int .i64 0, .int .i64 0, .int .i64 0, .int .i64 0, .int .i64 0, .slice none 0 0], .agg #[.int .i64 0, .int .i64 0, .int .i64 0], .agg #[.slice none 0 0, .slice none 0 0, .int .i32 0]], []⟩ 8 (by kernel_rfl) (by kernel_rfl) (by kernel_rfl) (by kernel_rfl))
    rfl Try.underlying4 Try.laidOut (by kernel_rfl) law_den

theorem narrow_holds : Rows.TideNarrowSaid :=
  OpenClaim.holds_of_wide 14 Try.f14 rfl rfl rfl rfl rfl rfl rfl ⟨rfl, rfl, rfl, rfl, rfl⟩ rfl rfl rfl rfl rfl (by kernel_rfl) Try.func14 (by kernel_rfl)
    (of_decide_eq_true (by kernel_rfl)) (by unfold Func.isWrapper; rw [if_neg (by decide +kernel)]; exact ⟨rfl, rfl⟩)
    (fun os started H enc _ => law_lifted os started H enc)

end Go.Proofs.Ytjjolkfcahalkaa
