/- The law's example: a shore, some samples; whether a shore is valid; The law's example gives its answers in the code: Awake says true; The laws' functions WaterCan and WaterSources return true. No condition. -/
import Derived.Test.YtdhdeopenednaaaGreatDoorPackXC

namespace Go.Proofs.Water
open Go.V Go.Proofs Go.Proofs.Top

def smpF : Smp := ⟨22, 0, 0, true⟩
def smpN : Smp := ⟨24, 0, 0, false⟩
def smpG : Smp := ⟨24, 1, 0, true⟩
def bNorth : ByteArray := "north".toUTF8
def bMid : ByteArray := "mid".toUTF8
def bSouth : ByteArray := "south".toUTF8
def shore : Sh := ⟨[⟨bNorth, 10, 1⟩, ⟨bMid, 20, 3⟩, ⟨bSouth, 30, 1⟩], [⟨5, 10⟩, ⟨-10, -5⟩], 3⟩

theorem den39 : DN 39 [] (.agg smpF.enc) := by
  refine mk Tryz.func39 Tryz.call39 rfl rfl ?_
  exact rfl
theorem den40 : DN 40 [] (.agg smpN.enc) := by
  refine mk Tryz.func40 Tryz.call40 rfl rfl ?_
  exact rfl
theorem den41 : DN 41 [] (.agg smpG.enc) := by
  refine mk Tryz.func41 Tryz.call41 rfl rfl ?_
  exact rfl
theorem den38 (a b : Smp) : DN 38 [.agg a.enc, .agg b.enc] (.list 4 ([a, b].map Smp.enc)) := by
  refine mk Tryz.func38 Tryz.call38 rfl rfl ?_
  exact rfl
theorem den37 : DN 37 [] (.agg shore.enc) := by
  refine mk Tryz.func37 Tryz.call37 rfl rfl ?_
  refine ⟨_, rfl, _, den73 5 10, ?_⟩
  refine ⟨_, rfl, _, den73 (-10) (-5), ?_⟩
  exact rfl

end Go.Proofs.Water

namespace Go.Proofs.Water
open Go.V Go.Proofs Go.Proofs.Top

def smpH : Smp := ⟨22, 0, 0, false⟩

set_option maxRecDepth 100000 in
theorem ex1 : shore.agreeR [smpF, smpN] = (true, 0) := by decide +kernel
set_option maxRecDepth 100000 in
theorem ex2 : shore.agreeR [smpF, smpH] = (false, 0) := by decide +kernel
set_option maxRecDepth 100000 in
theorem ex3 : shore.canR [smpF, smpG] 1 = ([1, 2], 0) := by decide +kernel
set_option maxRecDepth 100000 in
theorem ex4 : shore.sourcesR [smpF, smpG] = ([0, 1, 2], 0) := by decide +kernel
set_option maxRecDepth 100000 in
theorem ex5 : shore.mustR [smpF, smpN] = ([0], 0) := by decide +kernel
set_option maxRecDepth 100000 in
theorem ex6 : shore.fewestR [smpF, smpG] = ([0, 1], 0) := by decide +kernel
set_option maxRecDepth 100000 in
theorem ex7 : shore.askE [smpF] 0 [12, 24] = 0 := by decide +kernel
set_option maxRecDepth 100000 in
theorem ex8 : (shore.askB [smpF] 0 [12, 24]).at' = 1 ∧ (shore.askB [smpF] 0 [12, 24]).tide = 0 ∧ (shore.askB [smpF] 0 [12, 24]).kind = 0 ∧ (shore.askB [smpF] 0 [12, 24]).n = 1 := by decide +kernel
set_option maxRecDepth 100000 in
theorem ex9 : shore.canR [smpF, smpN] 1 = ([], 2) := by decide +kernel

theorem c1 : DN 14 [.agg shore.enc, .list 4 ([smpF, smpN].map Smp.enc)] (.tup [.bool true, .int .i64 0]) := by
  have h := den14 shore [smpF, smpN]; rw [ex1] at h; exact h
theorem c2 : DN 14 [.agg shore.enc, .list 4 ([smpF, smpH].map Smp.enc)] (.tup [.bool false, .int .i64 0]) := by
  have h := den14 shore [smpF, smpH]; rw [ex2] at h; exact h
theorem c3 : DN 18 [.agg shore.enc, .list 4 ([smpF, smpG].map Smp.enc), .int .i64 1] (.tup [.list 1 ([1, 2].map encI), .int .i64 0]) := by
  have h := den18 shore [smpF, smpG] 1; rw [ex3] at h; exact h
theorem c4 : DN 15 [.agg shore.enc, .list 4 ([smpF, smpG].map Smp.enc)] (.tup [.list 1 ([0, 1, 2].map encI), .int .i64 0]) := by
  have h := den15 shore [smpF, smpG]; rw [ex4] at h; exact h
theorem c5 : DN 42 [.agg shore.enc, .list 4 ([smpF, smpN].map Smp.enc)] (.tup [.list 1 ([0].map encI), .int .i64 0]) := by
  have h := den42 shore [smpF, smpN]; rw [ex5] at h; exact h
theorem c6 : DN 16 [.agg shore.enc, .list 4 ([smpF, smpG].map Smp.enc)] (.tup [.list 1 ([0, 1].map encI), .int .i64 0]) := by
  have h := den16 shore [smpF, smpG]; rw [ex6] at h; exact h
theorem c7 : DN 43 [.agg shore.enc, .list 4 ([smpF].map Smp.enc), .int .i64 0, .list 1 ([12, 24].map encI)] (.tup [.int .i64 1, .int .i64 0, .int .i64 0, .int .i64 1, .int .i64 0]) := by
  have h := den43 shore [smpF] 0 [12, 24]
  obtain ⟨e1, e2, e3, e4⟩ := ex8
  unfold askD at h
  rw [ex7, e1, e2, e3, e4] at h; exact h
theorem c8 : DN 18 [.agg shore.enc, .list 4 ([smpF, smpN].map Smp.enc), .int .i64 1] (.tup [.list 1 [], .int .i64 2]) := by
  have h := den18 shore [smpF, smpN] 1; rw [ex9] at h; exact h

theorem e21 (l : List Int) (hl : l.length < 1000000) : DN 36 [.list 1 (l.map encI), .list 1 (l.map encI)] (.bool true) := by
  have h := den36 l l hl; rw [decide_eq_true rfl] at h; exact h

set_option maxRecDepth 4000 in
set_option maxHeartbeats 2000000 in
theorem den7 : DN 7 [] (.bool true) := by
  refine mk Tryz.func7 Tryz.call7 rfl rfl ?_
  refine ⟨_, rfl, _, den37, ?_⟩
  refine ⟨_, rfl, _, den39, ?_⟩
  refine ⟨_, rfl, _, den40, ?_⟩
  refine ⟨_, rfl, _, den38 smpF smpN, ?_⟩
  refine ⟨_, rfl, _, c1, ?_⟩
  refine ⟨_, rfl, _, den37, ?_⟩
  refine ⟨_, rfl, _, den39, ?_⟩
  refine ⟨_, rfl, _, den38 smpF smpH, ?_⟩
  refine ⟨_, rfl, _, c2, ?_⟩
  refine ⟨_, rfl, _, den37, ?_⟩
  refine ⟨_, rfl, _, den39, ?_⟩
  refine ⟨_, rfl, _, den41, ?_⟩
  refine ⟨_, rfl, _, den38 smpF smpG, ?_⟩
  refine ⟨_, rfl, _, c3, ?_⟩
  refine ⟨_, rfl, _, den37, ?_⟩
  refine ⟨_, rfl, _, den39, ?_⟩
  refine ⟨_, rfl, _, den41, ?_⟩
  refine ⟨_, rfl, _, den38 smpF smpG, ?_⟩
  refine ⟨_, rfl, _, c4, ?_⟩
  refine ⟨_, rfl, _, den37, ?_⟩
  refine ⟨_, rfl, _, den39, ?_⟩
  refine ⟨_, rfl, _, den40, ?_⟩
  refine ⟨_, rfl, _, den38 smpF smpN, ?_⟩
  refine ⟨_, rfl, _, c5, ?_⟩
  refine ⟨_, rfl, _, den37, ?_⟩
  refine ⟨_, rfl, _, den39, ?_⟩
  refine ⟨_, rfl, _, den41, ?_⟩
  refine ⟨_, rfl, _, den38 smpF smpG, ?_⟩
  refine ⟨_, rfl, _, c6, ?_⟩
  refine ⟨_, rfl, _, den37, ?_⟩
  refine ⟨_, rfl, _, den39, ?_⟩
  refine ⟨_, rfl, _, c7, ?_⟩
  refine ⟨_, rfl, _, den37, ?_⟩
  refine ⟨_, rfl, _, den39, ?_⟩
  refine ⟨_, rfl, _, den40, ?_⟩
  refine ⟨_, rfl, _, den38 smpF smpN, ?_⟩
  refine ⟨_, rfl, _, c8, ?_⟩
  repeat refine ⟨fun _ => ?_, fun h => absurd h (by decide)⟩
  refine ⟨_, rfl, _, e21 [1, 2] (by decide), ?_⟩
  repeat refine ⟨fun _ => ?_, fun h => absurd h (by decide)⟩
  refine ⟨_, rfl, _, e21 [0, 1, 2] (by decide), ?_⟩
  repeat refine ⟨fun _ => ?_, fun h => absurd h (by decide)⟩
  refine ⟨_, rfl, _, e21 [0] (by decide), ?_⟩
  repeat refine ⟨fun _ => ?_, fun h => absurd h (by decide)⟩
  refine ⟨_, rfl, _, e21 [0, 1] (by decide), ?_⟩
  repeat refine ⟨fun _ => ?_, fun h => absurd h (by decide)⟩
  exact rfl

end Go.Proofs.Water

namespace Go.Proofs.Water
open Go.V Go.Proofs Go.Proofs.Top

theorem yardsZ_le (x : Nat) : (yardsZ x).length ≤ 5 := by
  rw [yardsZ_len]
  exact Nat.le_trans (List.length_filter_le _ _) (by rw [List.length_range]; exact Nat.le_refl _)
theorem canR_len (s : Sh) (l : List Smp) (n : Int) : (s.canR l n).1.length < 1000000 := by
  unfold Sh.canR
  split
  · exact by simp
  · have := yardsZ_le (s.can l (2 ^ n.toNat))
    simp only
    omega
theorem sourcesR_len (s : Sh) (l : List Smp) : (s.sourcesR l).1.length < 1000000 := by
  unfold Sh.sourcesR
  split
  · exact by simp
  · have := yardsZ_le (s.can l (fnd l))
    simp only
    omega
theorem fewestR_len (s : Sh) (l : List Smp) : (s.fewestR l).1.length < 1000000 := by
  unfold Sh.fewestR
  split
  · exact by simp
  · have := yardsZ_le (bestN (s.expl l) s.all (2 ^ s.yards.length))
    simp only
    omega
theorem mustR_len (s : Sh) (l : List Smp) : (s.mustR l).1.length < 1000000 := by
  unfold Sh.mustR
  cases h : s.enterE l != 0 with
  | true => exact by simp
  | false =>
    have he : s.enterE l = 0 := by simpa using h
    have ho : s.openE l = 0 := by
      apply Classical.byContradiction
      intro hne
      have hn : (s.openE l == 0) = false := by simpa using hne
      unfold Sh.enterE Sh.agreedE at he
      rw [hn] at he
      exact hne he
    have hv := (ok_of ho).v
    have h1 := mustL_len s l s.yards.length
    have h2 := hv.yl
    simp only
    omega

end Go.Proofs.Water
