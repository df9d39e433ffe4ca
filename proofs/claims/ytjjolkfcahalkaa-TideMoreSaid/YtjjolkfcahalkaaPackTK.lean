/- The further arguments of the statements. No condition. -/
import Derived.Test.YtjjolkfcahalkaaPackTI
import Derived.Test.YtjjolkfcahalkaaPackTE

namespace Go.Proofs.Tide
open Go.V Go.Proofs

theorem u16_wf {x : Int} (h : (Lit.int .u16 x).wf = true) : 0 ≤ x ∧ x ≤ 65535 := by
  simp [Lit.wf, IntKind.min, IntKind.max, IntKind.signed, IntKind.bits] at h; omega

theorem i32_wf {x : Int} (h : (Lit.int .i32 x).wf = true) : -2147483648 ≤ x ∧ x ≤ 2147483647 := by
  simp [Lit.wf, IntKind.min, IntKind.max, IntKind.signed, IntKind.bits] at h; omega

theorem cells72 : Try.prog.cellsOf 72 = 1 := by kernel_rfl

set_option maxRecDepth 100000 in
theorem u16s_of {n : Nat} {ds : List D} (h : WT Try.prog (n + 3) 59 ds) : ∃ xs : List Int, ds = [u16s xs] ∧ xs.length ≤ 9223372036854775807 ∧ ∀ x ∈ xs, 0 ≤ x ∧ x ≤ 65535 := by
  obtain ⟨rows, rfl, hl, hr⟩ := wt_slice Try.underlying59 h
  rw [cells72]
  obtain ⟨l, rfl, hp⟩ := rows_map (enc := rowU) (p := fun x => 0 ≤ x ∧ x ≤ 65535) fun row hrow => by
    obtain ⟨x, rfl, hx⟩ := wt_int Try.underlying72 (hr row hrow).2
    exact ⟨x, rfl, u16_wf hx⟩
  refine ⟨l, rfl, ?_, hp⟩
  rw [List.length_map] at hl
  unfold maxLen at hl; omega

set_option maxRecDepth 100000 in
theorem asked_of {n : Nat} {d : D} (h : WA Try.prog (n + 5) 61 d) : ∃ (x : Nat) (y : Int) (xs : List Int), d = .agg [.int .u8 x, .int .u8 y, u16s xs] ∧ x ≤ 255 ∧ (0 ≤ y ∧ y ≤ 255) ∧ xs.length ≤ 9223372036854775807 ∧ ∀ x ∈ xs, 0 ≤ x ∧ x ≤ 65535 := by
  obtain ⟨ds, rfl, g⟩ := wa_struct Try.underlying61 h
  obtain ⟨a, r, rfl, _, ha, c, r2, rfl, _, hc, e, r3, rfl, _, he, rfl⟩ := wt_struct Try.underlying61 g
  obtain ⟨x, rfl, hx⟩ := wt_int Try.underlying5 ha
  obtain ⟨y, rfl, hy⟩ := wt_int Try.underlying5 hc
  obtain ⟨xs, rfl, hl, hp⟩ := u16s_of he
  have hx' := u8_wf hx
  have hy' := u8_wf hy
  obtain ⟨z, rfl⟩ : ∃ z : Nat, x = z := ⟨x.toNat, by omega⟩
  exact ⟨z, y, xs, rfl, by omega, hy', hl, hp⟩

set_option maxRecDepth 100000 in
theorem x4_of {n : Nat} {d : D} (h : WA Try.prog (n + 5) 73 d) : ∃ (x y : Int) (z : Nat) (u : Int), d = .agg [.int .u16 x, .int .u16 y, .int .u16 z, .int .u16 u] ∧ (0 ≤ x ∧ x ≤ 65535) ∧ (0 ≤ y ∧ y ≤ 65535) ∧ z ≤ 65535 ∧ (0 ≤ u ∧ u ≤ 65535) := by
  obtain ⟨ds, rfl, g⟩ := wa_array Try.underlying73 h
  obtain ⟨a, r, rfl, _, ha, c, r2, rfl, _, hc, e, r3, rfl, _, he, f, r4, rfl, _, hf, rfl⟩ := wt_array Try.underlying73 g
  obtain ⟨x, rfl, hx⟩ := wt_int Try.underlying72 ha
  obtain ⟨y, rfl, hy⟩ := wt_int Try.underlying72 hc
  obtain ⟨z, rfl, hz⟩ := wt_int Try.underlying72 he
  obtain ⟨u, rfl, hu⟩ := wt_int Try.underlying72 hf
  have hz' := u16_wf hz
  obtain ⟨k, rfl⟩ : ∃ k : Nat, z = k := ⟨z.toNat, by omega⟩
  exact ⟨x, y, k, u, rfl, u16_wf hx, u16_wf hy, by omega, u16_wf hu⟩

set_option maxRecDepth 100000 in
theorem pulled_of {n : Nat} {d : D} (h : WA Try.prog (n + 5) 76 d) : ∃ (xs ys : List Int) (t : Int), d = .agg [u16s xs, u16s ys, .int .i32 t] ∧ (xs.length ≤ 9223372036854775807 ∧ ∀ x ∈ xs, 0 ≤ x ∧ x ≤ 65535) ∧ (ys.length ≤ 9223372036854775807 ∧ ∀ x ∈ ys, 0 ≤ x ∧ x ≤ 65535) ∧ -2147483648 ≤ t ∧ t ≤ 2147483647 := by
  obtain ⟨ds, rfl, g⟩ := wa_struct Try.underlying76 h
  obtain ⟨a, r, rfl, _, ha, c, r2, rfl, _, hc, e, r3, rfl, _, he, rfl⟩ := wt_struct Try.underlying76 g
  obtain ⟨xs, rfl, hx⟩ := u16s_of ha
  obtain ⟨ys, rfl, hy⟩ := u16s_of hc
  obtain ⟨t, rfl, ht⟩ := wt_int Try.underlying21 he
  exact ⟨xs, ys, t, rfl, hx, hy, i32_wf ht⟩

set_option maxRecDepth 100000 in
theorem more_of {n : Nat} {d : D} (h : WA Try.prog (n + 5) 81 d) : ∃ (xs : List Int) (x : Nat) (y : Int), d = .agg [u16s xs, .int .u8 x, .int .u8 y] ∧ (xs.length ≤ 9223372036854775807 ∧ ∀ x ∈ xs, 0 ≤ x ∧ x ≤ 65535) ∧ x ≤ 255 ∧ 0 ≤ y ∧ y ≤ 255 := by
  obtain ⟨ds, rfl, g⟩ := wa_struct Try.underlying81 h
  obtain ⟨a, r, rfl, _, ha, c, r2, rfl, _, hc, e, r3, rfl, _, he, rfl⟩ := wt_struct Try.underlying81 g
  obtain ⟨xs, rfl, hx⟩ := u16s_of ha
  obtain ⟨x, rfl, hx'⟩ := wt_int Try.underlying5 hc
  obtain ⟨y, rfl, hy⟩ := wt_int Try.underlying5 he
  have hx2 := u8_wf hx'
  obtain ⟨z, rfl⟩ : ∃ z : Nat, x = z := ⟨x.toNat, by omega⟩
  exact ⟨xs, z, y, rfl, hx, by omega, u8_wf hy⟩

end Go.Proofs.Tide
