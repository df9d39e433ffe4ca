/- gas: in any order, and told twice, readings lead to the same. No condition. -/
import Derived.Test.YtekancfhpbbieaaRows
import Derived.Test.YtekancfhpbbieaaPackHA
import Derived.Test.YtekancfhpbbieaaPackGN
import Derived.Test.YtekancfhpbbieaaPackGF

namespace Go.Proofs.Ytekancfhpbbieaa
open Go.V Go.Proofs Go.Proofs.Gas

set_option maxRecDepth 100000 in
theorem law_den (es : List D) (h : WAL Try.prog 10 Try.f11.params.toList es) : Den Try.prog 11 es (.bool true) := by
  rw [Try.params11] at h
  obtain ⟨d1, r1, rfl, h1, d2, r2, rfl, h2, d3, r3, rfl, h3, rfl⟩ := h
  obtain ⟨s, rfl, _⟩ := space_of h1
  obtain ⟨l, rfl, _⟩ := reads_of h2
  obtain ⟨p, rfl, hp⟩ := pa_of h3
  exact den11 s l p hp

set_option maxRecDepth 100000 in
theorem law_lifted (os : Os) (started : os.Started) (H : Type) (enc : TypeId × Value → H) :
    ReturnsInHanded {} Try.checked os 11 .any (Rows.gasOrderSpec.pre6 enc Try.prog Try.f11 Rows.gasOrderRow.domain false) (Rows.gasOrderSpec.post enc Try.prog Try.f11 false true false false) :=
  law_returns' (C := Try.checked) 10 rfl (fun ds hd => by
      match ds, hd with
      | [_, _, _], _ => rfl) Try.own started (by kernel_rfl) Try.func11
    (ChangeSpec.witness6 (enc := enc) (C := Try.checked) false ⟨#[], #[.agg #[.int .i64 0, .int .i64 0, .int .i64 0, .int .i64 0, .int .i64 0, .int .i64 0, .int .i64 0, .slice none 0 0, .slice none 0 0], .slice none 0 0, .agg #[.slice none 0 0, .slice none 0 0, .slice none 0 0, .int .u8 0]], []⟩ 8 (by kernel_rfl) (by kernel_rfl) (by kernel_rfl) (by kernel_rfl))
    rfl Try.underlying4 Try.laidOut (by kernel_rfl) law_den

theorem order_holds : Rows.GasOrderSaid :=
  OpenClaim.holds_of_wide 11 Try.f11 rfl rfl rfl rfl rfl rfl rfl ⟨rfl, rfl, rfl, rfl, rfl⟩ rfl rfl rfl rfl rfl (by kernel_rfl) Try.func11 (by kernel_rfl)
    (of_decide_eq_true (by kernel_rfl)) (by unfold Func.isWrapper; rw [if_neg (by decide +kernel)]; exact ⟨rfl, rfl⟩)
    (fun os started H enc _ => law_lifted os started H enc)

end Go.Proofs.Ytekancfhpbbieaa
