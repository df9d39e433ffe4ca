/- tide: in any truth a ship that was run ashore and pulled lies in the range of Lies, no farther seaward than without the last pull, and with a pull on the tide of Later at the target or beyond it. No condition. -/
import Derived.Test.YtjjolkfcahalkaaRows
import Derived.Test.YtjjolkfcahalkaaPackTL
import Derived.Test.YtjjolkfcahalkaaPackTK

namespace Go.Proofs.Ytjjolkfcahalkaa
open Go.V Go.Proofs Go.Proofs.Tide

set_option maxRecDepth 100000 in
theorem law_den (es : List D) (h : WAL Try.prog 10 Try.f12.params.toList es) : Den Try.prog 12 es (.bool true) := by
  rw [Try.params12] at h
  obtain ⟨d1, r1, rfl, h1, d2, r2, rfl, h2, d3, r3, rfl, h3, rfl⟩ := h
  obtain ⟨b, rfl, _⟩ := be_of h1
  obtain ⟨s, rfl⟩ := sh_of h2
  obtain ⟨xs, ys, t, rfl, hx, hy, ht⟩ := pulled_of h3
  exact den12 b s xs ys t hx.1 hx.2 hy.1 hy.2 ht.1 ht.2

set_option maxRecDepth 100000 in
theorem law_lifted (os : Os) (started : os.Started) (H : Type) (enc : TypeId × Value → H) :
    ReturnsInHanded {} Try.checked os 12 .any (Rows.tidePulledSpec.pre6 enc Try.prog Try.f12 Rows.tidePulledRow.domain false) (Rows.tidePulledSpec.post enc Try.prog Try.f12 false true false false) :=
  law_returns' (C := Try.checked) 10 rfl (fun ds hd => by
      match ds, hd with
      | [_, _, _], _ => rfl) Try.own started (by kernel_rfl) Try.func12
    (ChangeSpec.witness6 (enc := enc) (C := Try.checked) false ⟨#[], #[.agg #[.int .i64 0, .int .i64 0, .int .i64 0, .int .i64 0, .int .i64 0, .slice none 0 0], .agg #[.int .i64 0, .int .i64 0, .int .i64 0], .agg #[.slice none 0 0, .slice none 0 0, .int .i32 0]], []⟩ 8 (by kernel_rfl) (by kernel_rfl) (by kernel_rfl) (by kernel_rfl))
    rfl Try.underlying4 Try.laidOut (by kernel_rfl) law_den

theorem pulled_holds : Rows.TidePulledSaid :=
  OpenClaim.holds_of_wide 12 Try.f12 rfl rfl rfl rfl rfl rfl rfl ⟨rfl, rfl, rfl, rfl, rfl⟩ rfl rfl rfl rfl rfl (by kernel_rfl) Try.func12 (by kernel_rfl)
    (of_decide_eq_true (by kernel_rfl)) (by unfold Func.isWrapper; rw [if_neg (by decide +kernel)]; exact ⟨rfl, rfl⟩)
    (fun os started H enc _ => law_lifted os started H enc)

end Go.Proofs.Ytjjolkfcahalkaa
