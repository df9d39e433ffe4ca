/- gas: Refusal returns what the document says, for any space, readings and minute. No condition. -/
import Derived.Test.YtekancfhpbbieaaRows
import Derived.Test.YtekancfhpbbieaaPackHD
import Derived.Test.YtekancfhpbbieaaPackGF

namespace Go.Proofs.Ytekancfhpbbieaa
open Go.V Go.Proofs Go.Proofs.Gas

set_option maxRecDepth 100000 in
theorem law_den (es : List D) (h : WAL Try.prog 10 Try.f4.params.toList es) : Den Try.prog 4 es (.bool true) := by
  rw [Try.params4] at h
  obtain ⟨d1, r1, rfl, h1, d2, r2, rfl, h2, d3, r3, rfl, h3, rfl⟩ := h
  obtain ⟨s, rfl, _⟩ := space_of h1
  obtain ⟨l, rfl, _⟩ := reads_of h2
  obtain ⟨m, rfl, _⟩ := wa_int Try.underlying3 h3
  exact den4 s l m

set_option maxRecDepth 100000 in
theorem law_lifted (os : Os) (started : os.Started) (H : Type) (enc : TypeId × Value → H) :
    ReturnsInHanded {} Try.checked os 4 .any (Rows.gasRefusalsSpec.pre6 enc Try.prog Try.f4 Rows.gasRefusalsRow.domain false) (Rows.gasRefusalsSpec.post enc Try.prog Try.f4 false true false false) :=
  law_returns' (C := Try.checked) 10 rfl (fun ds hd => by
      match ds, hd with
      | [_, _, _], _ => rfl) Try.own started (by kernel_rfl) Try.func4
    (ChangeSpec.witness6 (enc := enc) (C := Try.checked) false ⟨#[], #[.agg #[.int .i64 0, .int .i64 0, .int .i64 0, .int .i64 0, .int .i64 0, .int .i64 0, .int .i64 0, .slice none 0 0, .slice none 0 0], .slice none 0 0, .int .i64 0], []⟩ 8 (by kernel_rfl) (by kernel_rfl) (by kernel_rfl) (by kernel_rfl))
    rfl Try.underlying4 Try.laidOut (by kernel_rfl) law_den

theorem refusals_holds : Rows.GasRefusalsSaid :=
  OpenClaim.holds_of_wide 4 Try.f4 rfl rfl rfl rfl rfl rfl rfl ⟨rfl, rfl, rfl, rfl, rfl⟩ rfl rfl rfl rfl rfl (by kernel_rfl) Try.func4 (by kernel_rfl)
    (of_decide_eq_true (by kernel_rfl)) (by unfold Func.isWrapper; rw [if_neg (by decide +kernel)]; exact ⟨rfl, rfl⟩)
    (fun os started H enc _ => law_lifted os started H enc)

end Go.Proofs.Ytekancfhpbbieaa
