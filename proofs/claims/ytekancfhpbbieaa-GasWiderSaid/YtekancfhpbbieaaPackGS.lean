/- The arguments of the statements: how much wider. No condition. -/
import Derived.Test.YtekancfhpbbieaaPackGN
import Derived.Test.YtekancfhpbbieaaPackGQ

namespace Go.Proofs.Gas
open Go.V Go.Proofs

set_option maxRecDepth 100000 in
theorem wd_of {n : Nat} {d : D} (h : WA Try.prog (n + 5) 80 d) : ∃ w : Wd, d = .agg w.enc ∧ w.ok := by
  obtain ⟨ds, rfl, g⟩ := wa_struct Try.underlying80 h
  obtain ⟨a, r, rfl, _, ha, c, r2, rfl, _, hc, e, r3, rfl, _, he, f, r4, rfl, _, hf, k, r5, rfl, _, hk, rfl⟩ := wt_struct Try.underlying80 g
  obtain ⟨x, rfl, h1⟩ := wt_int Try.underlying5 ha
  obtain ⟨y, rfl, h2⟩ := wt_int Try.underlying5 hc
  obtain ⟨z, rfl, h3⟩ := wt_int Try.underlying5 he
  obtain ⟨u, rfl, h4⟩ := wt_int Try.underlying5 hf
  obtain ⟨v, rfl, h5⟩ := wt_int Try.underlying5 hk
  exact ⟨⟨x, y, z, u, v⟩, rfl, ⟨u8_of h1, u8_of h2, u8_of h3, u8_of h4, u8_of h5⟩⟩

end Go.Proofs.Gas
