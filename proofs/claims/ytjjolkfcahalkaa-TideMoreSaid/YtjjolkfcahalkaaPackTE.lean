/- The arguments of the statements, and the first statements' laws; The first statements' laws. No condition. -/
import Derived.Test.YtjjolkfcahalkaaPackTA
import Derived.Test.YtjjolkfcahalkaaPackVH
import Derived.Test.YtjjolkfcahalkaaPackTD

namespace Go.Proofs.Tide
open Go.V Go.Proofs

set_option maxRecDepth 100000 in
theorem sp_of {n : Nat} {ds : List D} (h : WT Try.prog (n + 2) 23 ds) : ∃ s : Sp, ds = s.enc := by
  obtain ⟨a, r, rfl, _, ha, c, r2, rfl, _, hc, rfl⟩ := wt_struct Try.underlying23 h
  obtain ⟨l, rfl, _⟩ := wt_int Try.underlying3 ha
  obtain ⟨u, rfl, _⟩ := wt_int Try.underlying3 hc
  exact ⟨⟨l, u⟩, rfl⟩

set_option maxRecDepth 100000 in
theorem ti_of {n : Nat} {ds : List D} (h : WT Try.prog (n + 3) 67 ds) : ∃ t : Ti, ds = t.enc := by
  obtain ⟨a, r, rfl, _, ha, c, r2, rfl, _, hc, e, r3, rfl, _, he, rfl⟩ := wt_struct Try.underlying67 h
  obtain ⟨l, rfl, _⟩ := wt_int Try.underlying3 ha
  obtain ⟨u, rfl⟩ := sp_of hc
  obtain ⟨v, rfl⟩ := sp_of he
  exact ⟨⟨l, u, v⟩, rfl⟩

theorem cells67 : Try.prog.cellsOf 67 = 5 := by kernel_rfl
theorem cells49 : Try.prog.cellsOf 49 = 2 := by kernel_rfl

set_option maxRecDepth 100000 in
theorem be_of {n : Nat} {d : D} (h : WA Try.prog (n + 5) 26 d) : ∃ b : Be, d = .agg b.enc ∧ b.tides.length ≤ maxLen := by
  obtain ⟨ds, rfl, g⟩ := wa_struct Try.underlying26 h
  obtain ⟨a, r, rfl, _, ha, c, r2, rfl, _, hc, e, r3, rfl, _, he, f, r4, rfl, _, hf, rfl⟩ := wt_struct Try.underlying26 g
  obtain ⟨sl, rfl⟩ := sp_of ha
  obtain ⟨ma, rfl⟩ := sp_of hc
  obtain ⟨bi, rfl, _⟩ := wt_int Try.underlying3 he
  obtain ⟨rows, rfl, hl, hr⟩ := wt_slice Try.underlying24 hf
  rw [cells67]
  obtain ⟨l, rfl, _⟩ := rows_map (enc := Ti.enc) (p := fun _ => True) fun row hrow => by
    obtain ⟨t, ht⟩ := ti_of (hr row hrow).2
    exact ⟨t, ht, trivial⟩
  exact ⟨⟨sl, ma, bi, l⟩, rfl, by simpa using hl⟩

set_option maxRecDepth 100000 in
theorem sh_of {n : Nat} {d : D} (h : WA Try.prog (n + 5) 28 d) : ∃ s : Sh, d = .agg s.enc := by
  obtain ⟨ds, rfl, g⟩ := wa_struct Try.underlying28 h
  obtain ⟨a, r, rfl, _, ha, c, r2, rfl, _, hc, rfl⟩ := wt_struct Try.underlying28 g
  obtain ⟨sl, rfl⟩ := sp_of ha
  obtain ⟨bi, rfl, _⟩ := wt_int Try.underlying3 hc
  exact ⟨⟨sl, bi⟩, rfl⟩

set_option maxRecDepth 100000 in
theorem x2_of {n : Nat} {d : D} (h : WA Try.prog (n + 5) 29 d) : ∃ x y : Int, d = .agg [.int .i64 x, .int .i64 y] := by
  obtain ⟨ds, rfl, g⟩ := wa_array Try.underlying29 h
  obtain ⟨a, r, rfl, _, ha, c, r2, rfl, _, hc, rfl⟩ := wt_array Try.underlying29 g
  obtain ⟨x, rfl, _⟩ := wt_int Try.underlying3 ha
  obtain ⟨y, rfl, _⟩ := wt_int Try.underlying3 hc
  exact ⟨x, y, rfl⟩

theorem Try.own : ownKnob Try.prog.godebug = none := by kernel_rfl
theorem Try.laidOut : laidOutB Try.prog = true := by kernel_rfl

theorem max_lt {n : Nat} (h : n ≤ maxLen) : n < 9223372036854775808 := by
  unfold maxLen at h; omega

end Go.Proofs.Tide

namespace Go.Proofs.Tide
open Go.V Go.Proofs

theorem ne_self {x : Int} (h : (x != x) = true) : False := by simp at h
theorem eq_self {x : Int} (h : (x == x) = false) : False := by simp at h

set_option maxHeartbeats 2000000 in
theorem den3 (b : Be) (s : Sh) (x y : Int) (hl : b.tides.length ≤ maxLen) : DN 3 [.agg b.enc, .agg s.enc, .agg [.int .i64 x, .int .i64 y]] (.bool true) := by
  have hl' := max_lt hl
  refine mk Try.func3 Try.call3 rfl rfl ?_
  refine ⟨_, rfl, _, den16 b s, ?_⟩
  refine ⟨_, rfl, _, den17 b s, ?_⟩
  refine ⟨fun h => (ne_self h).elim, fun _ => ?_⟩
  refine ⟨fun h => (ne_self h).elim, fun _ => ?_⟩
  refine ⟨fun h => (ne_self h).elim, fun _ => ?_⟩
  refine ⟨by decide, ?_⟩
  refine ⟨by decide, ?_⟩
  refine ⟨_, rfl, _, den18 b s x y, ?_⟩
  refine ⟨by decide, ?_⟩
  refine ⟨by decide, ?_⟩
  refine ⟨_, rfl, _, den19 b s x y hl', ?_⟩
  refine ⟨fun h => ?_, fun _ => ?_⟩
  · have h : (!(((stopsR b s x y).1.lo == (stopsR b s x y).1.lo) && (((stopsR b s x y).1.hi == (stopsR b s x y).1.hi) && true))) = true := h
    simp at h
  refine ⟨fun h => (ne_self h).elim, fun _ => ?_⟩
  refine ⟨by decide, ?_⟩
  refine ⟨_, rfl, _, den20 b s y, ?_⟩
  refine ⟨by decide, ?_⟩
  refine ⟨_, rfl, _, den21 b s y hl', ?_⟩
  have hlen : (ashoreR b s y).1.length < 1000000 := by
    unfold ashoreR
    by_cases h : stepE b s 0 y = 0
    · rw [if_neg (by omega)]
      have := (stepE_zero h).1.n1
      have := found_len b s y b.tides.length
      simp only
      omega
    · rw [if_pos h]; simp
  refine ⟨_, rfl, _, den22 _ _ hlen, ?_⟩
  refine ⟨fun _ => ?_, fun h => ?_⟩
  · refine ⟨fun _ => ?_, fun h => (eq_self h).elim⟩
    refine ⟨_, rfl, _, den23, ?_⟩
    rfl
  · have h : decide ((ashoreR b s y).1 = (ashoreR b s y).1) = false := h
    simp at h

set_option maxHeartbeats 2000000 in
theorem den4 (b : Be) (s : Sh) (x y : Int) (hl : b.tides.length ≤ maxLen) : DN 4 [.agg b.enc, .agg s.enc, .agg [.int .i64 x, .int .i64 y]] (.bool true) := by
  have hl' := max_lt hl
  refine mk Try.func4 Try.call4 rfl rfl ?_
  refine ⟨by decide, ?_⟩
  refine ⟨_, rfl, _, den24 b s x, ?_⟩
  refine ⟨by decide, ?_⟩
  refine ⟨_, rfl, _, den25 b s x hl', ?_⟩
  refine ⟨fun h => (ne_self h).elim, fun _ => ?_⟩
  refine ⟨fun h => (ne_self h).elim, fun _ => ?_⟩
  refine ⟨by decide, ?_⟩
  refine ⟨_, rfl, _, den26 b s y, ?_⟩
  refine ⟨by decide, ?_⟩
  refine ⟨_, rfl, _, den27 b s y, ?_⟩
  refine ⟨fun _ => ?_, fun h => (eq_self h).elim⟩
  refine ⟨fun _ => ?_, fun h => (eq_self h).elim⟩
  refine ⟨fun _ => ?_, fun h => (eq_self h).elim⟩
  refine ⟨_, rfl, _, den23, ?_⟩
  rfl

set_option maxHeartbeats 2000000 in
theorem den5 (b : Be) (s : Sh) (x y : Int) (hl : b.tides.length ≤ maxLen) : DN 5 [.agg b.enc, .agg s.enc, .agg [.int .i64 x, .int .i64 y]] (.bool true) := by
  have hl' := max_lt hl
  refine mk Try.func5 Try.call5 rfl rfl ?_
  refine ⟨by decide, ?_⟩
  refine ⟨by decide, ?_⟩
  refine ⟨_, rfl, _, den28 b s x y, ?_⟩
  refine ⟨by decide, ?_⟩
  refine ⟨by decide, ?_⟩
  refine ⟨_, rfl, _, den29 b s x y hl', ?_⟩
  generalize missesR b s x y = m
  refine ⟨fun _ => ?_, fun h => ?_⟩
  · refine ⟨fun _ => ?_, fun h => (eq_self h).elim⟩
    refine ⟨fun _ => ?_, fun h => (eq_self h).elim⟩
    refine ⟨_, rfl, _, den23, ?_⟩
    rfl
  · have h : ((m.1.slope == m.1.slope) && ((m.1.draft == m.1.draft) && ((m.1.height == m.1.height) && ((m.1.wind == m.1.wind) && true)))) = false := h
    simp at h

end Go.Proofs.Tide
