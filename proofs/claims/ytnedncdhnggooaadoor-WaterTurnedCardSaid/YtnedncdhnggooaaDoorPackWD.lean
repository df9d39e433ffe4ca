/- The law's example: a shore, some samples; whether a shore is valid; The law's example gives its answers in the code: Awake says true; The laws' functions WaterCan and WaterSources return true. No condition. -/
import Derived.Test.YtnedncdhnggooaaDoorPackWC

namespace Go.Proofs.Water
open Go.V Go.Proofs

def smpF : Smp := ⟨22, 0, 0, true⟩
def smpN : Smp := ⟨24, 0, 0, false⟩
def smpG : Smp := ⟨24, 1, 0, true⟩
def bNorth : ByteArray := "north".toUTF8
def bMid : ByteArray := "mid".toUTF8
def bSouth : ByteArray := "south".toUTF8
def shore : Sh := ⟨[⟨bNorth, 10, 1⟩, ⟨bMid, 20, 3⟩, ⟨bSouth, 30, 1⟩], [⟨5, 10⟩, ⟨-10, -5⟩], 3⟩

theorem den31 : DN 31 [] (.agg smpF.enc) := by
  refine mk Tryd.func31 Tryd.call31 rfl rfl ?_
  exact rfl
theorem den34 : DN 34 [] (.agg smpN.enc) := by
  refine mk Tryd.func34 Tryd.call34 rfl rfl ?_
  exact rfl
theorem den35 : DN 35 [] (.agg smpG.enc) := by
  refine mk Tryd.func35 Tryd.call35 rfl rfl ?_
  exact rfl
theorem den33 (a b : Smp) : DN 33 [.agg a.enc, .agg b.enc] (.list 4 ([a, b].map Smp.enc)) := by
  refine mk Tryd.func33 Tryd.call33 rfl rfl ?_
  exact rfl
theorem den36 (s : Sh) : DN 36 [.agg s.enc] (.bool (s.check.2.2 == 0)) := by
  refine mk Tryd.func36 Tryd.call36 rfl rfl ?_
  refine ⟨_, rfl, _, den16 s, ?_⟩
  exact rfl

theorem den32 : DN 32 [] (.agg shore.enc) := by
  refine mk Tryd.func32 Tryd.call32 rfl rfl ?_
  refine ⟨_, rfl, _, den49 5 10, ?_⟩
  refine ⟨_, rfl, _, den49 (-10) (-5), ?_⟩
  exact rfl

end Go.Proofs.Water

namespace Go.Proofs.Water
open Go.V Go.Proofs

def smpH : Smp := ⟨22, 0, 0, false⟩

set_option maxRecDepth 100000 in
theorem ex1 : shore.agreeR [smpF, smpN] = (true, 0) := by decide +kernel
set_option maxRecDepth 100000 in
theorem ex2 : shore.agreeR [smpF, smpH] = (false, 0) := by decide +kernel
set_option maxRecDepth 100000 in
theorem ex3 : shore.canR [smpF, smpG] 1 = ([1, 2], 0) := by decide +kernel
set_option maxRecDepth 100000 in
theorem ex4 : shore.sourcesR [smpF, smpG] = ([0, 1, 2], 0) := by decide +kernel
set_option maxRecDepth 100000 in
theorem ex5 : shore.mustR [smpF, smpN] = ([0], 0) := by decide +kernel
set_option maxRecDepth 100000 in
theorem ex6 : shore.fewestR [smpF, smpG] = ([0, 1], 0) := by decide +kernel
set_option maxRecDepth 100000 in
theorem ex7 : shore.askE [smpF] 0 [12, 24] = 0 := by decide +kernel
set_option maxRecDepth 100000 in
theorem ex8 : (shore.askB [smpF] 0 [12, 24]).at' = 1 ∧ (shore.askB [smpF] 0 [12, 24]).tide = 0 ∧ (shore.askB [smpF] 0 [12, 24]).kind = 0 ∧ (shore.askB [smpF] 0 [12, 24]).n = 1 := by decide +kernel
set_option maxRecDepth 100000 in
theorem ex9 : shore.canR [smpF, smpN] 1 = ([], 2) := by decide +kernel

theorem c1 : DN 17 [.agg shore.enc, .list 4 ([smpF, smpN].map Smp.enc)] (.tup [.bool true, .int .i64 0]) := by
  have h := den17 shore [smpF, smpN]; rw [ex1] at h; exact h
theorem c2 : DN 17 [.agg shore.enc, .list 4 ([smpF, smpH].map Smp.enc)] (.tup [.bool false, .int .i64 0]) := by
  have h := den17 shore [smpF, smpH]; rw [ex2] at h; exact h
theorem c3 : DN 19 [.agg shore.enc, .list 4 ([smpF, smpG].map Smp.enc), .int .i64 1] (.tup [.list 1 ([1, 2].map encI), .int .i64 0]) := by
  have h := den19 shore [smpF, smpG] 1; rw [ex3] at h; exact h
theorem c4 : DN 23 [.agg shore.enc, .list 4 ([smpF, smpG].map Smp.enc)] (.tup [.list 1 ([0, 1, 2].map encI), .int .i64 0]) := by
  have h := den23 shore [smpF, smpG]; rw [ex4] at h; exact h
theorem c5 : DN 25 [.agg shore.enc, .list 4 ([smpF, smpN].map Smp.enc)] (.tup [.list 1 ([0].map encI), .int .i64 0]) := by
  have h := den25 shore [smpF, smpN]; rw [ex5] at h; exact h
theorem c6 : DN 27 [.agg shore.enc, .list 4 ([smpF, smpG].map Smp.enc)] (.tup [.list 1 ([0, 1].map encI), .int .i64 0]) := by
  have h := den27 shore [smpF, smpG]; rw [ex6] at h; exact h
theorem c7 : DN 29 [.agg shore.enc, .list 4 ([smpF].map Smp.enc), .int .i64 0, .list 1 ([12, 24].map encI)] (.tup [.int .i64 1, .int .i64 0, .int .i64 0, .int .i64 1, .int .i64 0]) := by
  have h := den29 shore [smpF] 0 [12, 24]
  obtain ⟨e1, e2, e3, e4⟩ := ex8
  unfold askD at h
  rw [ex7, e1, e2, e3, e4] at h; exact h
theorem c8 : DN 19 [.agg shore.enc, .list 4 ([smpF, smpN].map Smp.enc), .int .i64 1] (.tup [.list 1 [], .int .i64 2]) := by
  have h := den19 shore [smpF, smpN] 1; rw [ex9] at h; exact h

theorem e21 (l : List Int) (hl : l.length < 1000000) : DN 21 [.list 1 (l.map encI), .list 1 (l.map encI)] (.bool true) := by
  have h := den21 l l hl; rw [decide_eq_true rfl] at h; exact h

set_option maxRecDepth 4000 in
set_option maxHeartbeats 2000000 in
theorem den22 : DN 22 [] (.bool true) := by
  refine mk Tryd.func22 Tryd.call22 rfl rfl ?_
  refine ⟨_, rfl, _, den32, ?_⟩
  refine ⟨_, rfl, _, den31, ?_⟩
  refine ⟨_, rfl, _, den34, ?_⟩
  refine ⟨_, rfl, _, den33 smpF smpN, ?_⟩
  refine ⟨_, rfl, _, c1, ?_⟩
  refine ⟨_, rfl, _, den32, ?_⟩
  refine ⟨_, rfl, _, den31, ?_⟩
  refine ⟨_, rfl, _, den33 smpF smpH, ?_⟩
  refine ⟨_, rfl, _, c2, ?_⟩
  refine ⟨_, rfl, _, den32, ?_⟩
  refine ⟨_, rfl, _, den31, ?_⟩
  refine ⟨_, rfl, _, den35, ?_⟩
  refine ⟨_, rfl, _, den33 smpF smpG, ?_⟩
  refine ⟨_, rfl, _, c3, ?_⟩
  refine ⟨_, rfl, _, den32, ?_⟩
  refine ⟨_, rfl, _, den31, ?_⟩
  refine ⟨_, rfl, _, den35, ?_⟩
  refine ⟨_, rfl, _, den33 smpF smpG, ?_⟩
  refine ⟨_, rfl, _, c4, ?_⟩
  refine ⟨_, rfl, _, den32, ?_⟩
  refine ⟨_, rfl, _, den31, ?_⟩
  refine ⟨_, rfl, _, den34, ?_⟩
  refine ⟨_, rfl, _, den33 smpF smpN, ?_⟩
  refine ⟨_, rfl, _, c5, ?_⟩
  refine ⟨_, rfl, _, den32, ?_⟩
  refine ⟨_, rfl, _, den31, ?_⟩
  refine ⟨_, rfl, _, den35, ?_⟩
  refine ⟨_, rfl, _, den33 smpF smpG, ?_⟩
  refine ⟨_, rfl, _, c6, ?_⟩
  refine ⟨_, rfl, _, den32, ?_⟩
  refine ⟨_, rfl, _, den31, ?_⟩
  refine ⟨_, rfl, _, c7, ?_⟩
  refine ⟨_, rfl, _, den32, ?_⟩
  refine ⟨_, rfl, _, den31, ?_⟩
  refine ⟨_, rfl, _, den34, ?_⟩
  refine ⟨_, rfl, _, den33 smpF smpN, ?_⟩
  refine ⟨_, rfl, _, c8, ?_⟩
  repeat refine ⟨fun _ => ?_, fun h => absurd h (by decide)⟩
  refine ⟨_, rfl, _, e21 [1, 2] (by decide), ?_⟩
  repeat refine ⟨fun _ => ?_, fun h => absurd h (by decide)⟩
  refine ⟨_, rfl, _, e21 [0, 1, 2] (by decide), ?_⟩
  repeat refine ⟨fun _ => ?_, fun h => absurd h (by decide)⟩
  refine ⟨_, rfl, _, e21 [0] (by decide), ?_⟩
  repeat refine ⟨fun _ => ?_, fun h => absurd h (by decide)⟩
  refine ⟨_, rfl, _, e21 [0, 1] (by decide), ?_⟩
  repeat refine ⟨fun _ => ?_, fun h => absurd h (by decide)⟩
  exact rfl

end Go.Proofs.Water

namespace Go.Proofs.Water
open Go.V Go.Proofs

theorem yardsZ_le (x : Nat) : (yardsZ x).length ≤ 5 := by
  rw [yardsZ_len]
  exact Nat.le_trans (List.length_filter_le _ _) (by rw [List.length_range]; exact Nat.le_refl _)
theorem canR_len (s : Sh) (l : List Smp) (n : Int) : (s.canR l n).1.length < 1000000 := by
  unfold Sh.canR
  split
  · exact by simp
  · have := yardsZ_le (s.can l (2 ^ n.toNat))
    simp only
    omega
theorem sourcesR_len (s : Sh) (l : List Smp) : (s.sourcesR l).1.length < 1000000 := by
  unfold Sh.sourcesR
  split
  · exact by simp
  · have := yardsZ_le (s.can l (fnd l))
    simp only
    omega
theorem fewestR_len (s : Sh) (l : List Smp) : (s.fewestR l).1.length < 1000000 := by
  unfold Sh.fewestR
  split
  · exact by simp
  · have := yardsZ_le (bestN (s.expl l) s.all (2 ^ s.yards.length))
    simp only
    omega
theorem mustR_len (s : Sh) (l : List Smp) : (s.mustR l).1.length < 1000000 := by
  unfold Sh.mustR
  cases h : s.enterE l != 0 with
  | true => exact by simp
  | false =>
    have he : s.enterE l = 0 := by simpa using h
    have ho : s.openE l = 0 := by
      apply Classical.byContradiction
      intro hne
      have hn : (s.openE l == 0) = false := by simpa using hne
      unfold Sh.enterE Sh.agreedE at he
      rw [hn] at he
      exact hne he
    have hv := (ok_of ho).v
    have h1 := mustL_len s l s.yards.length
    have h2 := hv.yl
    simp only
    omega

theorem den3 (s : Sh) (l : List Smp) (n : Int) : DN 3 [.agg s.enc, .list 4 (l.map Smp.enc), .int .i64 n] (.bool true) := by
  refine mk Tryd.func3 Tryd.call3 rfl rfl ?_
  have nes : ∀ n : Int, (n != n) = false := fun n => by simp
  have eqs : ∀ n : Int, (n == n) = true := fun n => by simp
  have neb : ∀ n : Bool, (n != n) = false := fun n => by simp
  have h15 := den15 s
  have h16 := den16 s
  obtain ⟨u, hu⟩ : ∃ u, s.check = u := ⟨_, rfl⟩
  rw [hu] at h15 h16
  have h17 := den17 s l
  have h18 := den18 s l
  obtain ⟨a, ha⟩ : ∃ a, s.agreeR l = a := ⟨_, rfl⟩
  rw [ha] at h17 h18
  have hl := canR_len s l n
  have h19 := den19 s l n
  have h20 := den20 s l n
  obtain ⟨v, hv⟩ : ∃ v, s.canR l n = v := ⟨_, rfl⟩
  rw [hv] at h19 h20 hl
  refine ⟨_, rfl, _, h15, ?_⟩
  refine ⟨_, rfl, _, h16, ?_⟩
  refine ⟨fun h => absurd ((nes _).symm.trans h) (by decide), fun _ => ?_⟩
  refine ⟨fun h => absurd ((nes _).symm.trans h) (by decide), fun _ => ?_⟩
  refine ⟨fun h => absurd ((nes _).symm.trans h) (by decide), fun _ => ?_⟩
  refine ⟨_, rfl, _, h17, ?_⟩
  refine ⟨_, rfl, _, h18, ?_⟩
  refine ⟨fun h => absurd ((neb _).symm.trans h) (by decide), fun _ => ?_⟩
  refine ⟨fun h => absurd ((nes _).symm.trans h) (by decide), fun _ => ?_⟩
  refine ⟨_, rfl, _, h19, ?_⟩
  refine ⟨_, rfl, _, h20, ?_⟩
  refine ⟨_, rfl, _, den21 v.1 v.1 hl, ?_⟩
  have h21 : decide (v.1 = v.1) = true := by simp
  refine ⟨fun _ => ?_, fun h => absurd (h21.symm.trans h) (by decide)⟩
  refine ⟨fun _ => ?_, fun h => absurd ((eqs _).symm.trans h) (by decide)⟩
  exact ⟨_, rfl, _, den22, rfl⟩

theorem den4 (s : Sh) (l : List Smp) : DN 4 [.agg s.enc, .list 4 (l.map Smp.enc)] (.bool true) := by
  refine mk Tryd.func4 Tryd.call4 rfl rfl ?_
  have nes : ∀ n : Int, (n != n) = false := fun n => by simp
  have eqs : ∀ n : Int, (n == n) = true := fun n => by simp
  have hl1 := sourcesR_len s l
  have h23 := den23 s l
  have h24 := den24 s l
  obtain ⟨u, hu⟩ : ∃ u, s.sourcesR l = u := ⟨_, rfl⟩
  rw [hu] at h23 h24 hl1
  have hl2 := mustR_len s l
  have h25 := den25 s l
  have h26 := den26 s l
  obtain ⟨v, hv⟩ : ∃ v, s.mustR l = v := ⟨_, rfl⟩
  rw [hv] at h25 h26 hl2
  have hl3 := fewestR_len s l
  have h27 := den27 s l
  have h28 := den28 s l
  obtain ⟨w, hw⟩ : ∃ w, s.fewestR l = w := ⟨_, rfl⟩
  rw [hw] at h27 h28 hl3
  have h21 : ∀ m : List Int, decide (m = m) = true := fun m => by simp
  refine ⟨_, rfl, _, h23, ?_⟩
  refine ⟨_, rfl, _, h24, ?_⟩
  refine ⟨_, rfl, _, den21 u.1 u.1 hl1, ?_⟩
  refine ⟨fun h => absurd h (by simp), fun _ => ?_⟩
  refine ⟨fun h => absurd ((nes _).symm.trans h) (by decide), fun _ => ?_⟩
  refine ⟨_, rfl, _, h25, ?_⟩
  refine ⟨_, rfl, _, h26, ?_⟩
  refine ⟨_, rfl, _, den21 v.1 v.1 hl2, ?_⟩
  refine ⟨fun h => absurd h (by simp), fun _ => ?_⟩
  refine ⟨fun h => absurd ((nes _).symm.trans h) (by decide), fun _ => ?_⟩
  refine ⟨_, rfl, _, h27, ?_⟩
  refine ⟨_, rfl, _, h28, ?_⟩
  refine ⟨_, rfl, _, den21 w.1 w.1 hl3, ?_⟩
  refine ⟨fun _ => ?_, fun h => absurd ((h21 _).symm.trans h) (by decide)⟩
  refine ⟨fun _ => ?_, fun h => absurd ((eqs _).symm.trans h) (by decide)⟩
  exact ⟨_, rfl, _, den22, rfl⟩

end Go.Proofs.Water
