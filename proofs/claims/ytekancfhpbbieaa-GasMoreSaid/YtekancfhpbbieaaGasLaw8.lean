/- gas: with a further reading no range of Level is wider, no torch has to be put out earlier, and where there was no truth there is none. No condition. -/
import Derived.Test.YtekancfhpbbieaaRows
import Derived.Test.YtekancfhpbbieaaPackGX
import Derived.Test.YtekancfhpbbieaaPackGY
import Derived.Test.YtekancfhpbbieaaPackGF

namespace Go.Proofs.Ytekancfhpbbieaa
open Go.V Go.Proofs Go.Proofs.Gas

set_option maxRecDepth 100000 in
theorem law_den (es : List D) (h : WAL Try.prog 10 Try.f10.params.toList es) (hsl : SlW Try.prog Try.f10.params.toList es) : Den Try.prog 10 es (.bool true) := by
  rw [Try.params10] at h hsl
  obtain ⟨d1, r1, rfl, h1, d2, r2, rfl, h2, d3, r3, rfl, h3, rfl⟩ := h
  obtain ⟨s, rfl, _⟩ := space_of h1
  obtain ⟨l, rfl, _⟩ := reads_of h2
  have hl := reads_fit (j := 1) hsl rfl rfl
  obtain ⟨r, m, rfl, hm⟩ := fur_of h3
  exact den10 s l r m hm hl

set_option maxRecDepth 100000 in
theorem law_lifted (os : Os) (started : os.Started) (H : Type) (enc : TypeId × Value → H) :
    ReturnsInHanded {} Try.checked os 10 .any (Rows.gasMoreSpec.pre6 enc Try.prog Try.f10 Rows.gasMoreRow.domain false) (Rows.gasMoreSpec.post enc Try.prog Try.f10 false true false false) :=
  law_returns_sized (C := Try.checked) 10 rfl (fun ds hd => by
      match ds, hd with
      | [_, _, _], _ => rfl) Try.own started (by kernel_rfl) Try.func10
    (ChangeSpec.witness6 (enc := enc) (C := Try.checked) false ⟨#[], #[.agg #[.int .i64 0, .int .i64 0, .int .i64 0, .int .i64 0, .int .i64 0, .int .i64 0, .int .i64 0, .slice none 0 0, .slice none 0 0], .slice none 0 0, .agg #[.int .i64 0, .int .i64 0, .int .i64 0, .int .u8 0]], []⟩ 8 (by kernel_rfl) (by kernel_rfl) (by kernel_rfl) (by kernel_rfl))
    rfl Try.underlying4 Try.laidOut (by kernel_rfl) law_den

theorem more_holds : Rows.GasMoreSaid :=
  OpenClaim.holds_of_wide 10 Try.f10 rfl rfl rfl rfl rfl rfl rfl ⟨rfl, rfl, rfl, rfl, rfl⟩ rfl rfl rfl rfl rfl (by kernel_rfl) Try.func10 (by kernel_rfl)
    (of_decide_eq_true (by kernel_rfl)) (by unfold Func.isWrapper; rw [if_neg (by decide +kernel)]; exact ⟨rfl, rfl⟩)
    (fun os started H enc _ => law_lifted os started H enc)

end Go.Proofs.Ytekancfhpbbieaa
