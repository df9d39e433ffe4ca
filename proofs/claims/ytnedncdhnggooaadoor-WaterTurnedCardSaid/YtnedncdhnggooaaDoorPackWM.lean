/- The laws' arguments, opened: truths, further samples; what fits. No condition. -/
import Derived.Test.YtnedncdhnggooaaDoorPackWE
import Derived.Test.YtnedncdhnggooaaDoorPackVL

namespace Go.Proofs.Water
open Go.V Go.Proofs

theorem smps_fit {ts : List TypeId} {es : List D} (hsl : SlW Tryd.prog ts es) {j : Nat} (ht : ts[j]? = some 26) {l : List Smp} (he : es[j]? = some (.list 4 (l.map Smp.enc))) : l.length * 32 ≤ 140737488351232 := by
  have h := hsl j 26 46 4 _ ht Tryd.underlying26 he
  rw [List.length_map] at h
  have hb : Tryd.prog.bytesOf 46 = 32 := by kernel_rfl
  rw [hb] at h
  exact h

set_option maxRecDepth 100000 in
theorem u16_row {n : Nat} {ds : List D} (h : WT Tryd.prog (n + 1) 110 ds) : ∃ v : Int, ds = enc16 v ∧ (0 ≤ v ∧ v < 65536) := by
  obtain ⟨x, rfl, hx⟩ := wt_int Tryd.underlying110 h
  exact ⟨x, rfl, u16_of hx⟩
set_option maxRecDepth 100000 in
theorem u8_row {n : Nat} {ds : List D} (h : WT Tryd.prog (n + 1) 5 ds) : ∃ v : Int, ds = enc8 v ∧ (0 ≤ v ∧ v < 256) := by
  obtain ⟨x, rfl, hx⟩ := wt_int Tryd.underlying5 h
  exact ⟨x, rfl, u8_of hx⟩
set_option maxRecDepth 100000 in
theorem u16s_of {n : Nat} {ds : List D} (h : WT Tryd.prog (n + 3) 50 ds) : ∃ l : List Int, ds = [.list 1 (l.map enc16)] ∧ inL l 65536 ∧ l.length ≤ maxLen := by
  obtain ⟨rows, rfl, hl, hr⟩ := wt_slice Tryd.underlying50 h
  rw [cells110]
  obtain ⟨l, rfl, hp⟩ := rows_map (enc := enc16) (p := fun v => 0 ≤ v ∧ v < 65536) fun row hrow => u16_row (hr row hrow).2
  exact ⟨l, rfl, hp, by simpa using hl⟩
set_option maxRecDepth 100000 in
theorem u16l_of {n : Nat} {d : D} (h : WA Tryd.prog (n + 4) 50 d) : ∃ l : List Int, d = .list 1 (l.map enc16) ∧ inL l 65536 ∧ l.length ≤ maxLen := by
  obtain ⟨rows, rfl, hl, hr⟩ := wa_slice Tryd.underlying50 h
  rw [cells110]
  obtain ⟨l, rfl, hp⟩ := rows_map (enc := enc16) (p := fun v => 0 ≤ v ∧ v < 65536) fun row hrow => u16_row (hr row hrow).2
  exact ⟨l, rfl, hp, by simpa using hl⟩
set_option maxRecDepth 100000 in
theorem past_of {n : Nat} {d : D} (h : WA Tryd.prog (n + 5) 53 d) : ∃ p : Past, d = .agg p.enc ∧ p.Ok ∧ p.taken.length ≤ maxLen := by
  obtain ⟨ds, rfl, g⟩ := wa_struct Tryd.underlying53 h
  obtain ⟨a, r, rfl, _, ha, c, r2, rfl, _, hc, e, r3, rfl, _, he, rfl⟩ := wt_struct Tryd.underlying53 g
  obtain ⟨l, rfl, hl, _⟩ := u16s_of ha
  obtain ⟨m, rfl, hm⟩ := wt_int Tryd.underlying51 hc
  obtain ⟨t, rfl, ht, htl⟩ := u16s_of he
  have hm := u32_of hm
  obtain ⟨k, rfl⟩ : ∃ k : Nat, m = k := ⟨m.toNat, by omega⟩
  exact ⟨⟨l, k, t⟩, rfl, ⟨hl, by show k < 2 ^ 32; omega, ht⟩, htl⟩
set_option maxRecDepth 100000 in
theorem fur_of {n : Nat} {d : D} (h : WA Tryd.prog (n + 5) 70 d) : ∃ (x : Smp) (w : Int), d = .agg [.int .i64 x.place, .int .i64 x.tide, .int .i64 x.kind, .bool x.found, .int .u8 w] ∧ 0 ≤ w ∧ w < 256 := by
  obtain ⟨ds, rfl, g⟩ := wa_struct Tryd.underlying70 h
  obtain ⟨a, r, rfl, _, ha, c, r2, rfl, _, hc, rfl⟩ := wt_struct Tryd.underlying70 g
  obtain ⟨x, rfl⟩ := smp_of ha
  obtain ⟨m, rfl, hm⟩ := wt_int Tryd.underlying5 hc
  exact ⟨x, m, rfl, u8_of hm⟩
set_option maxRecDepth 100000 in
theorem asked_of {n : Nat} {d : D} (h : WA Tryd.prog (n + 5) 41 d) : ∃ (m : Int) (ps : List Int), d = .agg [.int .i64 m, .list 1 (ps.map encI)] := by
  obtain ⟨ds, rfl, g⟩ := wa_struct Tryd.underlying41 h
  obtain ⟨a, r, rfl, _, ha, c, r2, rfl, _, hc, rfl⟩ := wt_struct Tryd.underlying41 g
  obtain ⟨m, rfl, _⟩ := wt_int Tryd.underlying3 ha
  obtain ⟨rows, rfl, _, hr⟩ := wt_slice Tryd.underlying32 hc
  rw [cells3]
  obtain ⟨l, rfl, _⟩ := rows_map (enc := encI) (p := fun _ => True) fun row hrow => by
    obtain ⟨x, hx, _⟩ := wt_int Tryd.underlying3 (hr row hrow).2
    exact ⟨x, hx, trivial⟩
  exact ⟨m, l, rfl⟩

end Go.Proofs.Water
