/- The argument of GasFewest. No condition. -/
import Derived.Test.YtekancfhpbbieaaPackHG
import Derived.Test.YtekancfhpbbieaaPackGN
import Derived.Test.YtekancfhpbbieaaPackVL

namespace Go.Proofs.Gas
open Go.V Go.Proofs

set_option maxRecDepth 100000 in
theorem ro_of {n : Nat} {d : D} (h : WA Try.prog (n + 5) 74 d) (hl : ∀ (sz : Nat) (rows : List (List D)), .list sz rows ∈ cellsA d → rows.length ≤ 1048576) : ∃ x : Ro, d = .agg x.enc ∧ x.ok := by
  obtain ⟨ds, rfl, g⟩ := wa_struct Try.underlying74 h
  obtain ⟨a, r, rfl, _, ha, b, r2, rfl, _, hb, c, r3, rfl, _, hc, e, r4, rfl, _, he, f, r5, rfl, _, hf, o, r6, rfl, _, ho, k, r7, rfl, _, hk, rfl⟩ := wt_struct Try.underlying74 g
  obtain ⟨z1, rfl, hz1⟩ := wt_int Try.underlying5 ha
  obtain ⟨z2, rfl, _⟩ := wt_int Try.underlying72 hb
  obtain ⟨z3, rfl, hz3⟩ := wt_int Try.underlying5 hc
  obtain ⟨z4, rfl, hz4⟩ := wt_int Try.underlying5 he
  obtain ⟨l1, rfl, h1, _⟩ := l8_of hf
  obtain ⟨l2, rfl, h2, _⟩ := l8_of ho
  obtain ⟨l3, rfl, h3, _⟩ := l16_of hk
  have hlen := hl 1 (l1.map enc8) (by simp [cellsA])
  rw [List.length_map] at hlen
  exact ⟨⟨z1, z2, z3, z4, l1, l2, l3⟩, rfl, ⟨u8_of hz1, u8_of hz3, u8_of hz4, h1, h2, h3, hlen⟩⟩

end Go.Proofs.Gas
