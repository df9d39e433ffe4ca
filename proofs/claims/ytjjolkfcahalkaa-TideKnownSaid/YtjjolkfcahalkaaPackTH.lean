/- The examples of the document. No condition. -/
import Derived.Test.YtjjolkfcahalkaaPackTD

namespace Go.Proofs.Tide
open Go.V Go.Proofs

theorem kn1 : DN 18 [.agg B0.enc, .agg S0.enc, .int .i64 0, .int .i64 0] (.tup [.agg [.int .i64 7200, .int .i64 12000], .int .i64 0]) := by
  have h := den18 B0 S0 0 0
  rw [show stopsR B0 S0 0 0 = (⟨7200, 12000⟩, 0) by kernel_rfl] at h
  exact h
theorem kn2 : DN 18 [.agg B0.enc, .agg S0.enc, .int .i64 1, .int .i64 0] (.tup [.agg [.int .i64 9600, .int .i64 15500], .int .i64 0]) := by
  have h := den18 B0 S0 1 0
  rw [show stopsR B0 S0 1 0 = (⟨9600, 15500⟩, 0) by kernel_rfl] at h
  exact h
theorem kn3 : DN 20 [.agg B0.enc, .agg S0.enc, .int .i64 0] (.tup [intsD [0], .int .i64 0]) := by
  have h := den20 B0 S0 0
  rw [show ashoreR B0 S0 0 = ([0], 0) by kernel_rfl] at h
  exact h
theorem kn4 : DN 20 [.agg B0.enc, .agg S0.enc, .int .i64 6] (.tup [intsD [0], .int .i64 0]) := by
  have h := den20 B0 S0 6
  rw [show ashoreR B0 S0 6 = ([0], 0) by kernel_rfl] at h
  exact h
theorem kn5 : DN 20 [.agg B0.enc, .agg S0.enc, .int .i64 7] (.tup [intsD [], .int .i64 0]) := by
  have h := den20 B0 S0 7
  rw [show ashoreR B0 S0 7 = ([], 0) by kernel_rfl] at h
  exact h
theorem kn6 : DN 24 [.agg B0.enc, .agg S0.enc, .int .i64 0] (pairD (0, 0)) := by
  have h := den24 B0 S0 0
  rw [show leastR2 B0 S0 0 = (0, 0) by kernel_rfl] at h
  exact h
theorem kn7 : DN 26 [.agg B0.enc, .agg S0.enc, .int .i64 3] (trip (0, 0, 0)) := by
  have h := den26 B0 S0 3
  rw [show firstR B0 S0 3 = (0, 0, 0) by kernel_rfl] at h
  exact h
theorem kn8 : DN 26 [.agg B0.enc, .agg S0.enc, .int .i64 18] (trip (0, 0, 9)) := by
  have h := den26 B0 S0 18
  rw [show firstR B0 S0 18 = (0, 0, 9) by kernel_rfl] at h
  exact h
theorem kn9 : DN 28 [.agg B0.enc, .agg S0.enc, .int .i64 1, .int .i64 0] (missD (⟨20, 300, 560, -10⟩, 12500, 0)) := by
  have h := den28 B0 S0 1 0
  rw [show missesR B0 S0 1 0 = (⟨20, 300, 560, -10⟩, 12500, 0) by kernel_rfl] at h
  exact h
theorem kn10 : DN 30 [.agg B0.enc, .agg S0.enc, .agg [.int .i64 0, .int .i64 0], .list 0 []] (spanD (⟨7200, 12000⟩, 0)) := by
  have h := (den30 B0 S0 ⟨0, 0⟩ []).args (args := [.agg B0.enc, .agg S0.enc, .agg [.int .i64 0, .int .i64 0], .list 0 []]) (.tcons (.refl _) (.tcons (.refl _) (.tcons (.refl _) (.tcons (.nil _ _) .tnil))))
  rw [show liesR2 B0 S0 ⟨0, 0⟩ [] = (⟨7200, 12000⟩, 0) by kernel_rfl] at h
  exact h
theorem kn11 : DN 30 [.agg B0.enc, .agg S0.enc, .agg [.int .i64 0, .int .i64 0], .list 2 [[.int .i64 1, .int .i64 0]]] (spanD (⟨11600, 18000⟩, 0)) := by
  have h := den30 B0 S0 ⟨0, 0⟩ [⟨1, 0⟩]
  rw [show liesR2 B0 S0 ⟨0, 0⟩ [⟨1, 0⟩] = (⟨11600, 18000⟩, 0) by kernel_rfl] at h
  exact h

set_option maxHeartbeats 8000000 in
theorem den7 : DN 7 [] (.bool true) := by
  refine mk Try.func7 Try.call7 rfl rfl ?_
  refine ⟨_, rfl, _, den34, ?_⟩
  refine ⟨_, rfl, _, den35, ?_⟩
  refine ⟨_, rfl, _, kn1, ?_⟩
  refine ⟨_, rfl, _, den34, ?_⟩
  refine ⟨_, rfl, _, den35, ?_⟩
  refine ⟨_, rfl, _, kn2, ?_⟩
  refine ⟨_, rfl, _, den34, ?_⟩
  refine ⟨_, rfl, _, den35, ?_⟩
  refine ⟨_, rfl, _, kn3, ?_⟩
  refine ⟨_, rfl, _, den34, ?_⟩
  refine ⟨_, rfl, _, den35, ?_⟩
  refine ⟨_, rfl, _, kn4, ?_⟩
  refine ⟨_, rfl, _, den34, ?_⟩
  refine ⟨_, rfl, _, den35, ?_⟩
  refine ⟨_, rfl, _, kn5, ?_⟩
  refine ⟨_, rfl, _, den34, ?_⟩
  refine ⟨_, rfl, _, den35, ?_⟩
  refine ⟨_, rfl, _, kn6, ?_⟩
  refine ⟨_, rfl, _, den34, ?_⟩
  refine ⟨_, rfl, _, den35, ?_⟩
  refine ⟨_, rfl, _, kn7, ?_⟩
  refine ⟨_, rfl, _, den34, ?_⟩
  refine ⟨_, rfl, _, den35, ?_⟩
  refine ⟨_, rfl, _, kn8, ?_⟩
  refine ⟨_, rfl, _, den34, ?_⟩
  refine ⟨_, rfl, _, den35, ?_⟩
  refine ⟨_, rfl, _, kn9, ?_⟩
  refine ⟨_, rfl, _, den34, ?_⟩
  refine ⟨_, rfl, _, den35, ?_⟩
  refine ⟨_, rfl, _, kn10, ?_⟩
  refine ⟨_, rfl, _, den34, ?_⟩
  refine ⟨_, rfl, _, den35, ?_⟩
  refine ⟨_, rfl, _, kn11, ?_⟩
  refine Or.inl ⟨by kernel_rfl, ?_⟩
  refine ⟨fun _ => ?_, fun h => absurd (show true = false from h) (by decide)⟩
  refine ⟨fun _ => ?_, fun h => absurd (show true = false from h) (by decide)⟩
  refine ⟨fun _ => ?_, fun h => absurd (show true = false from h) (by decide)⟩
  refine ⟨fun _ => ?_, fun h => absurd (show true = false from h) (by decide)⟩
  refine ⟨fun _ => ?_, fun h => absurd (show true = false from h) (by decide)⟩
  refine ⟨fun _ => ?_, fun h => absurd (show true = false from h) (by decide)⟩
  refine ⟨fun _ => ?_, fun h => absurd (show true = false from h) (by decide)⟩
  refine ⟨fun _ => ?_, fun h => absurd (show true = false from h) (by decide)⟩
  refine ⟨fun _ => ?_, fun h => absurd (show true = false from h) (by decide)⟩
  refine ⟨fun _ => ?_, fun h => absurd (show true = false from h) (by decide)⟩
  refine ⟨fun _ => ?_, fun h => absurd (show true = false from h) (by decide)⟩
  refine ⟨_, rfl, _, den36 _ _, ?_⟩
  refine ⟨fun _ => ?_, fun h => absurd (show true = false from h) (by decide)⟩
  refine ⟨_, rfl, _, den36 _ _, ?_⟩
  refine ⟨fun _ => ?_, fun h => absurd (show true = false from h) (by decide)⟩
  refine ⟨_, rfl, _, den22 [0] [0] (by decide), ?_⟩
  refine ⟨fun _ => ?_, fun h => absurd (show true = false from h) (by decide)⟩
  refine ⟨_, rfl, _, den22 [0] [0] (by decide), ?_⟩
  refine ⟨fun _ => ?_, fun h => absurd (show true = false from h) (by decide)⟩
  refine ⟨fun _ => ?_, fun h => absurd (show true = false from h) (by decide)⟩
  refine ⟨fun _ => ?_, fun h => absurd (show true = false from h) (by decide)⟩
  refine ⟨fun _ => ?_, fun h => absurd (show true = false from h) (by decide)⟩
  refine ⟨fun _ => ?_, fun h => absurd (show true = false from h) (by decide)⟩
  refine ⟨fun _ => ?_, fun h => absurd (show true = false from h) (by decide)⟩
  refine ⟨fun _ => ?_, fun h => absurd (show true = false from h) (by decide)⟩
  refine ⟨fun _ => ?_, fun h => absurd (show true = false from h) (by decide)⟩
  refine ⟨_, rfl, _, den36 _ _, ?_⟩
  refine ⟨fun _ => ?_, fun h => absurd (show true = false from h) (by decide)⟩
  refine ⟨_, rfl, _, den23, ?_⟩
  rfl

end Go.Proofs.Tide
