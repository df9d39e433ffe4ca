/- The examples of the document: WaterKnown returns true. No condition. -/
import Derived.Test.YtnedncdhnggooaaDoorPackWD

namespace Go.Proofs.Water
open Go.V Go.Proofs

set_option maxRecDepth 100000 in
theorem kn1 : shore.canR [smpF] 0 = ([0, 1], 0) := by decide +kernel
set_option maxRecDepth 100000 in
theorem kn2 : shore.canR [smpF, smpN] 0 = ([0], 0) := by decide +kernel
set_option maxRecDepth 100000 in
theorem kn3 : shore.mustR [smpF] = ([], 0) := by decide +kernel
set_option maxRecDepth 100000 in
theorem kn4 : shore.mustR [smpF, smpG] = ([], 0) := by decide +kernel
set_option maxRecDepth 100000 in
theorem kn5 : shore.fewestR [smpF] = ([0], 0) := by decide +kernel
theorem k1 : DN 19 [.agg shore.enc, .list 4 ([smpF].map Smp.enc), .int .i64 0] (.tup [.list 1 ([0, 1].map encI), .int .i64 0]) := by
  have h := den19 shore [smpF] 0; rw [kn1] at h; exact h
theorem k2 : DN 19 [.agg shore.enc, .list 4 ([smpF, smpN].map Smp.enc), .int .i64 0] (.tup [.list 1 ([0].map encI), .int .i64 0]) := by
  have h := den19 shore [smpF, smpN] 0; rw [kn2] at h; exact h
theorem k3 : DN 25 [.agg shore.enc, .list 4 ([smpF].map Smp.enc)] (.tup [.list 1 [], .int .i64 0]) := by
  have h := den25 shore [smpF]; rw [kn3] at h; exact h
theorem k4 : DN 25 [.agg shore.enc, .list 4 ([smpF, smpG].map Smp.enc)] (.tup [.list 1 [], .int .i64 0]) := by
  have h := den25 shore [smpF, smpG]; rw [kn4] at h; exact h
theorem k5 : DN 27 [.agg shore.enc, .list 4 ([smpF].map Smp.enc)] (.tup [.list 1 ([0].map encI), .int .i64 0]) := by
  have h := den27 shore [smpF]; rw [kn5] at h; exact h

set_option maxRecDepth 4000 in
set_option maxHeartbeats 2000000 in
theorem den6 : DN 6 [] (.bool true) := by
  refine mk Tryd.func6 Tryd.call6 rfl rfl ?_
  refine ⟨_, rfl, _, den31, ?_⟩
  refine ⟨_, rfl, _, den32, ?_⟩
  refine ⟨_, rfl, _, k1, ?_⟩
  refine ⟨_, rfl, _, den32, ?_⟩
  refine ⟨_, rfl, _, den31, ?_⟩
  refine ⟨_, rfl, _, den34, ?_⟩
  refine ⟨_, rfl, _, den33 smpF smpN, ?_⟩
  refine ⟨_, rfl, _, k2, ?_⟩
  refine ⟨_, rfl, _, den32, ?_⟩
  refine ⟨_, rfl, _, k3, ?_⟩
  refine ⟨_, rfl, _, den32, ?_⟩
  refine ⟨_, rfl, _, den31, ?_⟩
  refine ⟨_, rfl, _, den35, ?_⟩
  refine ⟨_, rfl, _, den33 smpF smpG, ?_⟩
  refine ⟨_, rfl, _, k4, ?_⟩
  refine ⟨_, rfl, _, den32, ?_⟩
  refine ⟨_, rfl, _, k5, ?_⟩
  repeat refine ⟨fun _ => ?_, fun h => absurd h (by decide)⟩
  refine ⟨_, rfl, _, e21 [0, 1] (by decide), ?_⟩
  repeat refine ⟨fun _ => ?_, fun h => absurd h (by decide)⟩
  refine ⟨_, rfl, _, e21 [0] (by decide), ?_⟩
  repeat refine ⟨fun _ => ?_, fun h => absurd h (by decide)⟩
  refine ⟨_, rfl, _, e21 [0] (by decide), ?_⟩
  repeat refine ⟨fun _ => ?_, fun h => absurd h (by decide)⟩
  exact ⟨_, rfl, _, den22, rfl⟩

end Go.Proofs.Water
