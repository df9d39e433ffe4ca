/- The arguments of the statements: truths by turns. No condition. -/
import Derived.Test.YtekancfhpbbieaaPackGF
import Derived.Test.YtekancfhpbbieaaPackGL

namespace Go.Proofs.Gas
open Go.V Go.Proofs

theorem u8_of {m : Int} (h : (Lit.int .u8 m).wf = true) : 0 ≤ m ∧ m < 256 := by
  have h1 : decide (IntKind.u8.min ≤ m) = true ∧ decide (m ≤ IntKind.u8.max) = true := by simpa only [Lit.wf, Bool.and_eq_true] using h
  rw [decide_eq_true_eq, decide_eq_true_eq] at h1
  have e1 : IntKind.u8.min = 0 := by decide
  have e2 : IntKind.u8.max = 255 := by decide
  rw [e1, e2] at h1
  omega
theorem u16_of {m : Int} (h : (Lit.int .u16 m).wf = true) : 0 ≤ m ∧ m < 65536 := by
  have h1 : decide (IntKind.u16.min ≤ m) = true ∧ decide (m ≤ IntKind.u16.max) = true := by simpa only [Lit.wf, Bool.and_eq_true] using h
  rw [decide_eq_true_eq, decide_eq_true_eq] at h1
  have e1 : IntKind.u16.min = 0 := by decide
  have e2 : IntKind.u16.max = 65535 := by decide
  rw [e1, e2] at h1
  omega
theorem cells75 : Try.prog.cellsOf 75 = 1 := by kernel_rfl
theorem cells5 : Try.prog.cellsOf 5 = 1 := by kernel_rfl

set_option maxRecDepth 100000 in
theorem l16_of {n : Nat} {ds : List D} (h : WT Try.prog (n + 2) 49 ds) : ∃ l : List Int, ds = [.list 1 (l.map enc16)] ∧ inL l 65536 ∧ l.length ≤ maxLen := by
  obtain ⟨rows, rfl, hl, hr⟩ := wt_slice Try.underlying49 h
  rw [cells75]
  obtain ⟨l, rfl, hp⟩ := rows_map (enc := enc16) (p := fun v => 0 ≤ v ∧ v < 65536) fun row hrow => by
    obtain ⟨t, ht, hw⟩ := wt_int Try.underlying75 (hr row hrow).2
    exact ⟨t, ht, u16_of hw⟩
  exact ⟨l, rfl, hp, by simpa using hl⟩

set_option maxRecDepth 100000 in
theorem l8_of {n : Nat} {ds : List D} (h : WT Try.prog (n + 2) 50 ds) : ∃ l : List Int, ds = [.list 1 (l.map enc8)] ∧ inL l 256 ∧ l.length ≤ maxLen := by
  obtain ⟨rows, rfl, hl, hr⟩ := wt_slice Try.underlying50 h
  rw [cells5]
  obtain ⟨l, rfl, hp⟩ := rows_map (enc := enc8) (p := fun v => 0 ≤ v ∧ v < 256) fun row hrow => by
    obtain ⟨t, ht, hw⟩ := wt_int Try.underlying5 (hr row hrow).2
    exact ⟨t, ht, u8_of hw⟩
  exact ⟨l, rfl, hp, by simpa using hl⟩

set_option maxRecDepth 100000 in
theorem pa_of {n : Nat} {d : D} (h : WA Try.prog (n + 5) 52 d) : ∃ p : Pa, d = .agg p.enc ∧ p.ok := by
  obtain ⟨ds, rfl, g⟩ := wa_struct Try.underlying52 h
  obtain ⟨a, r, rfl, _, ha, c, r2, rfl, _, hc, e, r3, rfl, _, he, f, r4, rfl, _, hf, rfl⟩ := wt_struct Try.underlying52 g
  obtain ⟨l1, rfl, h1, _⟩ := l16_of ha
  obtain ⟨l2, rfl, h2, _⟩ := l8_of hc
  obtain ⟨l3, rfl, h3, _⟩ := l8_of he
  obtain ⟨z, rfl, hz⟩ := wt_int Try.underlying5 hf
  exact ⟨⟨l1, l2, l3, z⟩, rfl, ⟨h1, h2, h3, u8_of hz⟩⟩

set_option maxRecDepth 100000 in
theorem x4b_of {n : Nat} {d : D} (h : WA Try.prog (n + 5) 82 d) : ∃ a b c e : Int, d = .agg [.int .u8 a, .int .u8 b, .int .u8 c, .int .u8 e] ∧ (0 ≤ a ∧ a < 256) ∧ (0 ≤ b ∧ b < 256) ∧ (0 ≤ c ∧ c < 256) ∧ (0 ≤ e ∧ e < 256) := by
  obtain ⟨ds, rfl, g⟩ := wa_array Try.underlying82 h
  obtain ⟨a, r, rfl, _, ha, c, r2, rfl, _, hc, e, r3, rfl, _, he, f, r4, rfl, _, hf, rfl⟩ := wt_array Try.underlying82 g
  obtain ⟨x, rfl, h1⟩ := wt_int Try.underlying5 ha
  obtain ⟨y, rfl, h2⟩ := wt_int Try.underlying5 hc
  obtain ⟨z, rfl, h3⟩ := wt_int Try.underlying5 he
  obtain ⟨w, rfl, h4⟩ := wt_int Try.underlying5 hf
  exact ⟨x, y, z, w, rfl, u8_of h1, u8_of h2, u8_of h3, u8_of h4⟩

end Go.Proofs.Gas
