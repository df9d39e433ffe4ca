/- tide: the examples of the document. No condition. -/
import Derived.Test.YtjjolkfcahalkaaRows
import Derived.Test.YtjjolkfcahalkaaPackTH
import Derived.Test.YtjjolkfcahalkaaPackTE

namespace Go.Proofs.Ytjjolkfcahalkaa
open Go.V Go.Proofs Go.Proofs.Tide

set_option maxRecDepth 100000 in
theorem law_den (es : List D) (h : WAL Try.prog 10 Try.f7.params.toList es) : Den Try.prog 7 es (.bool true) := by
  rw [Try.params7] at h
  obtain rfl := h
  exact den7

set_option maxRecDepth 100000 in
theorem law_lifted (os : Os) (started : os.Started) (H : Type) (enc : TypeId × Value → H) :
    ReturnsInHanded {} Try.checked os 7 .any (Rows.tideKnownSpec.pre6 enc Try.prog Try.f7 Rows.tideKnownRow.domain false) (Rows.tideKnownSpec.post enc Try.prog Try.f7 false true false false) :=
  law_returns' (C := Try.checked) 10 rfl (fun ds hd => by
      match ds, hd with
      | [], _ => rfl) Try.own started (by kernel_rfl) Try.func7
    (ChangeSpec.witness6 (enc := enc) (C := Try.checked) false ⟨#[], #[], []⟩ 8 (by kernel_rfl) (by kernel_rfl) (by kernel_rfl) (by kernel_rfl))
    rfl Try.underlying4 Try.laidOut (by kernel_rfl) law_den

theorem known_holds : Rows.TideKnownSaid :=
  OpenClaim.holds_of_wide 7 Try.f7 rfl rfl rfl rfl rfl rfl rfl ⟨rfl, rfl, rfl, rfl, rfl⟩ rfl rfl rfl rfl rfl (by kernel_rfl) Try.func7 (by kernel_rfl)
    (of_decide_eq_true (by kernel_rfl)) (by unfold Func.isWrapper; rw [if_neg (by decide +kernel)]; exact ⟨rfl, rfl⟩)
    (fun os started H enc _ => law_lifted os started H enc)

end Go.Proofs.Ytjjolkfcahalkaa
