/- The arguments of the statements. No condition. -/
import Derived.Test.YtekancfhpbbieaaPackGA
import Derived.Test.YtekancfhpbbieaaPackVK

namespace Go.Proofs.Gas
open Go.V Go.Proofs

theorem Try.own : ownKnob Try.prog.godebug = none := by kernel_rfl
theorem Try.laidOut : laidOutB Try.prog = true := by kernel_rfl
theorem cells23 : Try.prog.cellsOf 23 = 2 := by kernel_rfl
theorem cells65 : Try.prog.cellsOf 65 = 2 := by kernel_rfl
theorem cells61 : Try.prog.cellsOf 61 = 3 := by kernel_rfl

set_option maxRecDepth 100000 in
theorem sp_of {n : Nat} {ds : List D} (h : WT Try.prog (n + 2) 23 ds) : ∃ s : Sp, ds = s.enc := by
  obtain ⟨a, r, rfl, _, ha, c, r2, rfl, _, hc, rfl⟩ := wt_struct Try.underlying23 h
  obtain ⟨l, rfl, _⟩ := wt_int Try.underlying3 ha
  obtain ⟨u, rfl, _⟩ := wt_int Try.underlying3 hc
  exact ⟨⟨l, u⟩, rfl⟩

set_option maxRecDepth 100000 in
theorem tl_of {n : Nat} {ds : List D} (h : WT Try.prog (n + 2) 65 ds) : ∃ x : ByteArray × Int, ds = encT x := by
  obtain ⟨a, r, rfl, _, ha, c, r2, rfl, _, hc, rfl⟩ := wt_struct Try.underlying65 h
  obtain ⟨l, rfl, _⟩ := wt_string Try.underlying9 ha
  obtain ⟨u, rfl, _⟩ := wt_int Try.underlying3 hc
  exact ⟨⟨l, u⟩, rfl⟩

set_option maxRecDepth 100000 in
theorem rd_of {n : Nat} {ds : List D} (h : WT Try.prog (n + 2) 61 ds) : ∃ r : Rd, ds = r.enc := by
  obtain ⟨a, r, rfl, _, ha, c, r2, rfl, _, hc, e, r3, rfl, _, he, rfl⟩ := wt_struct Try.underlying61 h
  obtain ⟨x, rfl, _⟩ := wt_int Try.underlying3 ha
  obtain ⟨y, rfl, _⟩ := wt_int Try.underlying3 hc
  obtain ⟨z, rfl, _⟩ := wt_int Try.underlying3 he
  exact ⟨⟨x, y, z⟩, rfl⟩

set_option maxRecDepth 100000 in
theorem space_of {n : Nat} {d : D} (h : WA Try.prog (n + 5) 27 d) : ∃ s : Space, d = .agg s.enc ∧ s.blows.length ≤ maxLen ∧ s.tools.length ≤ maxLen := by
  obtain ⟨ds, rfl, g⟩ := wa_struct Try.underlying27 h
  obtain ⟨a, r, rfl, _, ha, c, r2, rfl, _, hc, e, r3, rfl, _, he, f, r4, rfl, _, hf, k, r5, rfl, _, hk, m, r6, rfl, _, hm, rfl⟩ := wt_struct Try.underlying27 g
  obtain ⟨s1, rfl⟩ := sp_of ha
  obtain ⟨s2, rfl⟩ := sp_of hc
  obtain ⟨s3, rfl⟩ := sp_of he
  obtain ⟨s4, rfl, _⟩ := wt_int Try.underlying3 hf
  obtain ⟨rows, rfl, hl, hr⟩ := wt_slice Try.underlying24 hk
  obtain ⟨rows', rfl, hl', hr'⟩ := wt_slice Try.underlying25 hm
  rw [cells23, cells65]
  obtain ⟨l, rfl, _⟩ := rows_map (enc := Sp.enc) (p := fun _ => True) fun row hrow => by
    obtain ⟨t, ht⟩ := sp_of (hr row hrow).2
    exact ⟨t, ht, trivial⟩
  obtain ⟨l', rfl, _⟩ := rows_map (enc := encT) (p := fun _ => True) fun row hrow => by
    obtain ⟨t, ht⟩ := tl_of (hr' row hrow).2
    exact ⟨t, ht, trivial⟩
  exact ⟨⟨s1, s2, s3, s4, l, l'⟩, rfl, by simpa using hl, by simpa using hl'⟩

set_option maxRecDepth 100000 in
theorem reads_of {n : Nat} {d : D} (h : WA Try.prog (n + 5) 28 d) : ∃ l : List Rd, d = .list 3 (l.map Rd.enc) ∧ l.length ≤ maxLen := by
  obtain ⟨rows, rfl, hl, hr⟩ := wa_slice Try.underlying28 h
  rw [cells61]
  obtain ⟨l, rfl, _⟩ := rows_map (enc := Rd.enc) (p := fun _ => True) fun row hrow => by
    obtain ⟨t, ht⟩ := rd_of (hr row hrow).2
    exact ⟨t, ht, trivial⟩
  exact ⟨l, rfl, by simpa using hl⟩

set_option maxRecDepth 100000 in
theorem x4_of {n : Nat} {d : D} (h : WA Try.prog (n + 5) 42 d) : ∃ a b c e : Int, d = .agg [.int .i64 a, .int .i64 b, .int .i64 c, .int .i64 e] := by
  obtain ⟨ds, rfl, g⟩ := wa_array Try.underlying42 h
  obtain ⟨a, r, rfl, _, ha, c, r2, rfl, _, hc, e, r3, rfl, _, he, f, r4, rfl, _, hf, rfl⟩ := wt_array Try.underlying42 g
  obtain ⟨x, rfl, _⟩ := wt_int Try.underlying3 ha
  obtain ⟨y, rfl, _⟩ := wt_int Try.underlying3 hc
  obtain ⟨z, rfl, _⟩ := wt_int Try.underlying3 he
  obtain ⟨w, rfl, _⟩ := wt_int Try.underlying3 hf
  exact ⟨x, y, z, w, rfl⟩

end Go.Proofs.Gas
