/- The examples of the document. No condition. -/
import Derived.Test.YtekancfhpbbieaaPackGD

namespace Go.Proofs.Gas
open Go.V Go.Proofs

theorem kn1 : DN 17 [.agg S0.enc, .list 0 [], .int .i64 0] (levD (⟨0, 40⟩, 0)) := by
  have h := nil17 S0 0
  rw [show S0.levelE [] 0 = (⟨0, 40⟩, 0) by kernel_rfl] at h
  exact h
theorem kn2 : DN 17 [.agg S0.enc, .list 0 [], .int .i64 10] (levD (⟨10, 70⟩, 0)) := by
  have h := nil17 S0 10
  rw [show S0.levelE [] 10 = (⟨10, 70⟩, 0) by kernel_rfl] at h
  exact h
theorem kn3 : DN 17 [.agg S0.enc, .list 3 [Rd.enc ⟨20, 1, 6⟩], .int .i64 20] (levD (⟨4, 8⟩, 0)) := by
  have h := den17 S0 [⟨20, 1, 6⟩] 20
  rw [show S0.levelE [⟨20, 1, 6⟩] 20 = (⟨4, 8⟩, 0) by kernel_rfl] at h
  exact h
theorem kn4 : DN 19 [.agg S0.enc, .list 3 [Rd.enc ⟨20, 1, 6⟩], .int .i64 20] (intsD (20, 0)) := by
  have h := den19 S0 [⟨20, 1, 6⟩] 20
  rw [show S0.untilE [⟨20, 1, 6⟩] 20 = (20, 0) by kernel_rfl] at h
  exact h
theorem kn5 : DN 25 [.agg S0.enc, .int .i64 1, .int .i64 2, .int .i64 20] (intsD (22, 0)) := by
  have h := den25 S0 1 2 20
  rw [show S0.holds2 1 2 20 = (22, 0) by kernel_rfl] at h
  exact h
theorem kn6 : DN 25 [.agg S0.enc, .int .i64 1, .int .i64 9, .int .i64 20] (intsD (-1, 0)) := by
  have h := den25 S0 1 9 20
  rw [show S0.holds2 1 9 20 = (-1, 0) by kernel_rfl] at h
  exact h
theorem kn7 : DN 27 [.agg S0.enc, .int .i64 1, .int .i64 9, .int .i64 20, .int .i64 30] (listD ([], 9)) := by
  have h := den27 S0 1 9 20 30
  rw [show S0.fewestE 1 9 20 30 = ([], 9) by kernel_rfl] at h
  exact h

set_option maxHeartbeats 8000000 in
theorem den6 : DN 6 [] (.bool true) := by
  refine mk Try.func6 Try.call6 rfl rfl ?_
  refine ⟨_, rfl, _, den29, ?_⟩
  refine ⟨_, rfl, _, kn1, ?_⟩
  refine ⟨_, rfl, _, den29, ?_⟩
  refine ⟨_, rfl, _, kn2, ?_⟩
  refine ⟨_, rfl, _, den29, ?_⟩
  refine ⟨[], [.int .i64 6], [], _, rfl, rfl, rfl, rfl, den30 6, ⟨_, _, _, rfl, rfl, rfl⟩, ?_⟩
  rintro _ _ _ ⟨rfl, rfl, rfl⟩
  refine ⟨_, rfl, _, kn3, ?_⟩
  refine ⟨_, rfl, _, den29, ?_⟩
  refine ⟨[], [.int .i64 6], [], _, rfl, rfl, rfl, rfl, den30 6, ⟨_, _, _, rfl, rfl, rfl⟩, ?_⟩
  rintro _ _ _ ⟨rfl, rfl, rfl⟩
  refine ⟨_, rfl, _, kn4, ?_⟩
  refine ⟨_, rfl, _, den29, ?_⟩
  refine ⟨_, rfl, _, kn5, ?_⟩
  refine ⟨_, rfl, _, den29, ?_⟩
  refine ⟨_, rfl, _, kn6, ?_⟩
  refine ⟨_, rfl, _, den29, ?_⟩
  refine ⟨_, rfl, _, kn7, ?_⟩
  refine Or.inl ⟨by kernel_rfl, ?_⟩
  refine ⟨fun _ => ?_, fun h => absurd (show true = false from h) (by decide)⟩
  refine ⟨fun _ => ?_, fun h => absurd (show true = false from h) (by decide)⟩
  refine ⟨fun _ => ?_, fun h => absurd (show true = false from h) (by decide)⟩
  refine ⟨fun _ => ?_, fun h => absurd (show true = false from h) (by decide)⟩
  refine ⟨fun _ => ?_, fun h => absurd (show true = false from h) (by decide)⟩
  refine ⟨fun _ => ?_, fun h => absurd (show true = false from h) (by decide)⟩
  refine ⟨fun _ => ?_, fun h => absurd (show true = false from h) (by decide)⟩
  refine ⟨_, rfl, _, den31 _ _, ?_⟩
  refine ⟨fun _ => ?_, fun h => absurd (show true = false from h) (by decide)⟩
  refine ⟨_, rfl, _, den31 _ _, ?_⟩
  refine ⟨fun _ => ?_, fun h => absurd (show true = false from h) (by decide)⟩
  refine ⟨_, rfl, _, den31 _ _, ?_⟩
  refine ⟨fun _ => ?_, fun h => absurd (show true = false from h) (by decide)⟩
  refine ⟨fun _ => ?_, fun h => absurd (show true = false from h) (by decide)⟩
  refine ⟨fun _ => ?_, fun h => absurd (show true = false from h) (by decide)⟩
  refine ⟨fun _ => ?_, fun h => absurd (show true = false from h) (by decide)⟩
  refine ⟨_, rfl, _, den21, ?_⟩
  rfl

end Go.Proofs.Gas
