/- The arguments of the statements: a further reading, two small numbers. No condition. -/
import Derived.Test.YtekancfhpbbieaaPackGN
import Derived.Test.YtekancfhpbbieaaPackVL

namespace Go.Proofs.Gas
open Go.V Go.Proofs

set_option maxRecDepth 100000 in
theorem fur_of {n : Nat} {d : D} (h : WA Try.prog (n + 5) 68 d) : ∃ (r : Rd) (m : Int), d = .agg [.int .i64 r.minute, .int .i64 r.tool, .int .i64 r.shown, .int .u8 m] ∧ 0 ≤ m ∧ m < 256 := by
  obtain ⟨ds, rfl, g⟩ := wa_struct Try.underlying68 h
  obtain ⟨a, r, rfl, _, ha, c, r2, rfl, _, hc, rfl⟩ := wt_struct Try.underlying68 g
  obtain ⟨x, rfl⟩ := rd_of ha
  obtain ⟨z, rfl, hz⟩ := wt_int Try.underlying5 hc
  exact ⟨x, z, rfl, u8_of hz⟩

set_option maxRecDepth 100000 in
theorem x2b_of {n : Nat} {d : D} (h : WA Try.prog (n + 5) 63 d) : ∃ a b : Int, d = .agg [.int .u8 a, .int .u8 b] ∧ (0 ≤ a ∧ a < 256) ∧ (0 ≤ b ∧ b < 256) := by
  obtain ⟨ds, rfl, g⟩ := wa_array Try.underlying63 h
  obtain ⟨a, r, rfl, _, ha, c, r2, rfl, _, hc, rfl⟩ := wt_array Try.underlying63 g
  obtain ⟨x, rfl, h1⟩ := wt_int Try.underlying5 ha
  obtain ⟨y, rfl, h2⟩ := wt_int Try.underlying5 hc
  exact ⟨x, y, rfl, u8_of h1, u8_of h2⟩

theorem reads_fit {j : Nat} {ts : List TypeId} {es : List D} (h : SlW Try.prog ts es) {l : List Rd} (ht : ts[j]? = some 28) (he : es[j]? = some (.list 3 (l.map Rd.enc))) : l.length * 24 ≤ 140737488351232 := by
  have := h j 28 61 3 (l.map Rd.enc) ht Try.underlying28 he
  rw [List.length_map, show Try.prog.bytesOf 61 = 24 by kernel_rfl] at this
  exact this

end Go.Proofs.Gas
