/- Lies and Later are what the reference says. No condition. -/
import Derived.Test.YtjjolkfcahalkaaPackTE
import Derived.Test.YtjjolkfcahalkaaPackTF

namespace Go.Proofs.Tide
open Go.V Go.Proofs

set_option maxRecDepth 100000 in
theorem pu_of {n : Nat} {ds : List D} (h : WT Try.prog (n + 2) 49 ds) : ∃ p : Pu, ds = p.enc := by
  obtain ⟨a, r, rfl, _, ha, c, r2, rfl, _, hc, rfl⟩ := wt_struct Try.underlying49 h
  obtain ⟨l, rfl, _⟩ := wt_int Try.underlying3 ha
  obtain ⟨u, rfl, _⟩ := wt_int Try.underlying3 hc
  exact ⟨⟨l, u⟩, rfl⟩

set_option maxRecDepth 100000 in
theorem vo_of {n : Nat} {d : D} (h : WA Try.prog (n + 5) 52 d) : ∃ (run : Pu) (pulls : List Pu) (target : Int), d = .agg [.int .i64 run.tide, .int .i64 run.ballast, pullsD pulls, .int .i64 target] ∧ pulls.length ≤ maxLen := by
  obtain ⟨ds, rfl, g⟩ := wa_struct Try.underlying52 h
  obtain ⟨a, r, rfl, _, ha, c, r2, rfl, _, hc, e, r3, rfl, _, he, rfl⟩ := wt_struct Try.underlying52 g
  obtain ⟨run, rfl⟩ := pu_of ha
  obtain ⟨rows, rfl, hl, hr⟩ := wt_slice Try.underlying50 hc
  obtain ⟨t, rfl, _⟩ := wt_int Try.underlying3 he
  rw [cells49]
  obtain ⟨l, rfl, _⟩ := rows_map (enc := Pu.enc) (p := fun _ => True) fun row hrow => by
    obtain ⟨t, ht⟩ := pu_of (hr row hrow).2
    exact ⟨t, ht, trivial⟩
  exact ⟨run, l, t, rfl, by simpa using hl⟩

set_option maxHeartbeats 2000000 in
theorem den6 (b : Be) (s : Sh) (run : Pu) (pulls : List Pu) (target : Int) (hl : b.tides.length ≤ maxLen) (hp : pulls.length ≤ maxLen) : DN 6 [.agg b.enc, .agg s.enc, .agg [.int .i64 run.tide, .int .i64 run.ballast, pullsD pulls, .int .i64 target]] (.bool true) := by
  have hl' := max_lt hl
  have hp' := max_lt hp
  refine mk Try.func6 Try.call6 rfl rfl ?_
  refine ⟨_, rfl, _, den30 b s run pulls, ?_⟩
  refine ⟨_, rfl, _, den31 b s run pulls hl' hp', ?_⟩
  generalize liesR2 b s run pulls = m
  refine ⟨fun h => ?_, fun _ => ?_⟩
  · have h : (!((m.1.lo == m.1.lo) && ((m.1.hi == m.1.hi) && true))) = true := h
    simp at h
  refine ⟨fun h => (ne_self h).elim, fun _ => ?_⟩
  refine ⟨_, rfl, _, den32 b s run target, ?_⟩
  refine ⟨_, rfl, _, den33 b s run target hl', ?_⟩
  refine ⟨fun _ => ?_, fun h => (eq_self h).elim⟩
  refine ⟨fun _ => ?_, fun h => (eq_self h).elim⟩
  refine ⟨_, rfl, _, den23, ?_⟩
  rfl

end Go.Proofs.Tide
