/- The laws' arguments, opened: pairs of numbers. No condition. -/
import Derived.Test.YtnedncdhnggooaaDoorPackWM

namespace Go.Proofs.Water
open Go.V Go.Proofs

set_option maxRecDepth 100000 in
theorem pair_of {n : Nat} {d : D} (h : WA Tryd.prog (n + 5) 80 d) : ∃ a b : Int, d = .agg [.int .u8 a, .int .u8 b] ∧ (0 ≤ a ∧ a < 256) ∧ 0 ≤ b ∧ b < 256 := by
  obtain ⟨ds, rfl, g⟩ := wa_array Tryd.underlying80 h
  obtain ⟨a0, q0, rfl, _, h0, a1, q1, rfl, _, h1, rfl⟩ := wt_array Tryd.underlying80 g
  obtain ⟨a, rfl, k0⟩ := u8_row h0
  obtain ⟨b, rfl, k1⟩ := u8_row h1
  exact ⟨a, b, rfl, k0, k1⟩

end Go.Proofs.Water
