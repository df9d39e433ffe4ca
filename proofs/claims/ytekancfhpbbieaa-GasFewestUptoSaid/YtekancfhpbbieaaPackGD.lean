/- The space of the examples; Ints; The calls that tell that the program answers; The program answers. No condition. -/
import Derived.Test.YtekancfhpbbieaaPackGC

namespace Go.Proofs.Gas
open Go.V Go.Proofs

def oldN : ByteArray := ⟨#[111, 108, 100]⟩
def newN : ByteArray := ⟨#[110, 101, 119]⟩
def S0 : Space := ⟨⟨0, 40⟩, ⟨1, 3⟩, ⟨-6, -4⟩, 10, [⟨10, 19⟩], [(oldN, 5), (newN, 2)]⟩

theorem den31 (lo hi : Int) : DN 31 [.int .i64 lo, .int .i64 hi] (.agg [.int .i64 lo, .int .i64 hi]) := by
  refine mk Try.func31 Try.call31 rfl rfl ?_
  rfl

theorem den29 : DN 29 [] (.agg S0.enc) := by
  refine mk Try.func29 Try.call29 rfl rfl ?_
  refine ⟨_, rfl, _, den31 _ _, ?_⟩
  refine ⟨_, rfl, _, den31 _ _, ?_⟩
  refine ⟨_, rfl, _, den31 _ _, ?_⟩
  refine ⟨_, rfl, _, den31 _ _, ?_⟩
  rfl

theorem den30 (n : Int) : DenY Try.prog 30 [.int .i64 n] [] .non fun d bs y => d = .sl 0 0 0 1 ∧ bs = [.rows false 0 3 [Rd.enc ⟨20, 1, n⟩]] ∧ y = .non := by
  refine denY_of (sh := shG) (ish := ishG) Try.tok Try.mixed Try.func30 Try.call30 rfl rfl ?_
  exact ⟨_, rfl, rfl, rfl, rfl⟩

def refd : List Int := [21, 24, 27, 30, 33, 36, 39, 42, 45, 48, 51, 47, 43, 39, 35, 31, 27, 23, 19, 15, 11]
theorem den53 : DN 53 [] (.list 1 (refd.map encI)) := by
  refine mk Try.func53 Try.call53 rfl rfl ?_
  rfl

theorem encI_get {l : List Int} {i : Nat} (h : i < l.length) : (l.map encI)[((i : Int)).toNat]? = some [.int .i64 l[i]] := by simp [h, encI]
theorem encI_len (l : List Int) : (l.map encI).length = l.length := List.length_map ..

theorem den24 (l m : List Int) (hl : l.length < 1000000) : DN 24 [.list 1 (l.map encI), .list 1 (m.map encI)] (.bool (decide (l = m))) := by
  refine mk Try.func24 Try.call24 rfl rfl ?_
  refine ⟨[0, 1, 5, 6], 0, [], fun σ => ∃ (i : Nat) (same : Bool), i ≤ l.length ∧ (same = true → l.length = m.length ∧ l.take i = m.take i) ∧ (same = false → l ≠ m) ∧
    σ = ⟨[(0, .list 1 (l.map encI)), (1, .list 1 (m.map encI)), (5, .bool same), (6, .int .i64 i)], [], .non⟩, fun σ => ((l.length : Int) - slotI 6 σ).toNat, rfl, ⟨rfl, rfl⟩, ⟨0, _, Nat.zero_le _, ?_, ?_, rfl⟩, ?_⟩
  · intro h
    have h : (((l.map encI).length : Int) == ((m.map encI).length : Int)) = true := h
    rw [encI_len, encI_len] at h
    simp at h
    exact ⟨by omega, by simp⟩
  · intro h e
    have h : (((l.map encI).length : Int) == ((m.map encI).length : Int)) = false := h
    rw [encI_len, encI_len, e] at h
    simp at h
  rintro σ ⟨i, same, hi, hs1, hs2, rfl⟩
  have exit : (same = true → i = l.length) → some (D.bool same) = some (D.bool (decide (l = m))) := by
    intro h
    cases same with
    | false => simp [hs2 rfl]
    | true =>
      obtain ⟨h1, h2⟩ := hs1 rfl
      rw [h rfl, List.take_length, h1, List.take_length] at h2
      simp [h2]
  refine ⟨fun h1 => ?_, fun h1 => ?_⟩
  · have h1 := of_decide_eq_true h1
    rw [encI_len] at h1
    have hi' : i < l.length := by omega
    refine ⟨fun h2 => ?_, fun h2 => ?_⟩
    · obtain ⟨h3, h4⟩ := hs1 h2
      have hi2 : i < m.length := by omega
      refine Or.inl ⟨by kernel_rfl, ?_⟩
      refine ⟨by omega, _, encI_get hi', ?_⟩
      refine ⟨by omega, _, encI_get hi2, ?_⟩
      refine ⟨_, wrap64 (by omega) (by omega), ?_⟩
      refine ⟨⟨rfl, rfl⟩, ⟨i + 1, _, hi', ?_, ?_, rfl⟩, ?_⟩
      · intro h
        have h : l[i] = m[i] := by simpa using h
        exact ⟨h3, by rw [List.take_succ_eq_append_getElem hi', List.take_succ_eq_append_getElem hi2, h4, h]⟩
      · intro h e
        have h : l[i] ≠ m[i] := by simpa using h
        subst e; exact h rfl
      · show ((l.length : Int) - ((i : Int) + 1)).toNat < ((l.length : Int) - (i : Int)).toNat
        omega
    · exact exit (by intro h; rw [h2] at h; cases h)
  · have h1 := of_decide_eq_false h1
    rw [encI_len] at h1
    exact exit fun _ => by omega

end Go.Proofs.Gas

namespace Go.Proofs.Gas
open Go.V Go.Proofs

/-- No readings. -/
theorem nil17 (s : Space) (n : Int) : DN 17 [.agg s.enc, .list 0 [], .int .i64 n] (levD (s.levelE [] n)) := (den17 s [] n).args (.tcons (.refl _) (.tcons (.nil _ _) (.tcons (.refl _) .tnil)))

theorem aw1 : DN 17 [.agg S0.enc, .list 0 [], .int .i64 20] (levD (⟨0, 30⟩, 0)) := by
  have h := nil17 S0 20
  rw [show S0.levelE [] 20 = (⟨0, 30⟩, 0) by kernel_rfl] at h
  exact h
theorem aw2 : DN 17 [.agg S0.enc, .list 3 [Rd.enc ⟨20, 1, 6⟩, Rd.enc ⟨20, 0, 1⟩], .int .i64 20] (levD (⟨4, 6⟩, 0)) := by
  have h := den17 S0 [⟨20, 1, 6⟩, ⟨20, 0, 1⟩] 20
  rw [show S0.levelE [⟨20, 1, 6⟩, ⟨20, 0, 1⟩] 20 = (⟨4, 6⟩, 0) by kernel_rfl] at h
  exact h
theorem aw3 : DN 19 [.agg S0.enc, .list 3 [Rd.enc ⟨20, 1, 2⟩], .int .i64 20] (intsD (22, 0)) := by
  have h := den19 S0 [⟨20, 1, 2⟩] 20
  rw [show S0.untilE [⟨20, 1, 2⟩] 20 = (22, 0) by kernel_rfl] at h
  exact h
theorem aw4 : DN 19 [.agg S0.enc, .list 3 [Rd.enc ⟨20, 1, 12⟩], .int .i64 20] (intsD (-1, 0)) := by
  have h := den19 S0 [⟨20, 1, 12⟩] 20
  rw [show S0.untilE [⟨20, 1, 12⟩] 20 = (-1, 0) by kernel_rfl] at h
  exact h
theorem aw5 : DN 22 [.agg S0.enc, .list 3 [Rd.enc ⟨20, 1, 12⟩], .int .i64 20] (listD (refd, 0)) := by
  have h := den22 S0 [⟨20, 1, 12⟩] 20
  rw [show S0.refusalE [⟨20, 1, 12⟩] 20 = (refd, 0) by kernel_rfl] at h
  exact h
theorem aw6 : DN 25 [.agg S0.enc, .int .i64 1, .int .i64 2, .int .i64 10] (intsD (23, 0)) := by
  have h := den25 S0 1 2 10
  rw [show S0.holds2 1 2 10 = (23, 0) by kernel_rfl] at h
  exact h
theorem aw8 : DN 22 [.agg S0.enc, .list 3 [Rd.enc ⟨20, 1, 6⟩], .int .i64 20] (listD ([], 4)) := by
  have h := den22 S0 [⟨20, 1, 6⟩] 20
  rw [show S0.refusalE [⟨20, 1, 6⟩] 20 = ([], 4) by kernel_rfl] at h
  exact h
theorem aw7 : DN 27 [.agg S0.enc, .int .i64 1, .int .i64 2, .int .i64 20, .int .i64 30] (listD ([20, 22, 25, 28], 0)) := by
  have h := den27 S0 1 2 20 30
  rw [show S0.fewestE 1 2 20 30 = ([20, 22, 25, 28], 0) by kernel_rfl] at h
  exact h

end Go.Proofs.Gas

namespace Go.Proofs.Gas
open Go.V Go.Proofs

set_option maxHeartbeats 8000000 in
theorem den21 : DN 21 [] (.bool true) := by
  refine mk Try.func21 Try.call21 rfl rfl ?_
  refine ⟨_, rfl, _, den29, ?_⟩
  refine ⟨_, rfl, _, aw1, ?_⟩
  refine ⟨_, rfl, _, den29, ?_⟩
  refine ⟨[], [.int .i64 6], [], _, rfl, rfl, rfl, rfl, den30 6, ⟨_, _, _, rfl, rfl, rfl⟩, ?_⟩
  rintro _ _ _ ⟨rfl, rfl, rfl⟩
  refine ⟨trivial, iff' rfl ⟨rfl, by decide, _, rfl, ?_⟩⟩
  refine ⟨_, rfl, _, aw2, ?_⟩
  refine ⟨_, rfl, _, den29, ?_⟩
  refine ⟨[], [.int .i64 2], [], _, rfl, rfl, rfl, rfl, den30 2, ⟨_, _, _, rfl, rfl, rfl⟩, ?_⟩
  rintro _ _ _ ⟨rfl, rfl, rfl⟩
  refine ⟨_, rfl, _, aw3, ?_⟩
  refine ⟨_, rfl, _, den29, ?_⟩
  refine ⟨[], [.int .i64 12], [], _, rfl, rfl, rfl, rfl, den30 12, ⟨_, _, _, rfl, rfl, rfl⟩, ?_⟩
  rintro _ _ _ ⟨rfl, rfl, rfl⟩
  refine ⟨_, rfl, _, aw4, ?_⟩
  refine ⟨_, rfl, _, den29, ?_⟩
  refine ⟨[], [.int .i64 12], [], _, rfl, rfl, rfl, rfl, den30 12, ⟨_, _, _, rfl, rfl, rfl⟩, ?_⟩
  rintro _ _ _ ⟨rfl, rfl, rfl⟩
  refine ⟨_, rfl, _, aw5, ?_⟩
  refine ⟨_, rfl, _, den29, ?_⟩
  refine ⟨_, rfl, _, aw6, ?_⟩
  refine ⟨_, rfl, _, den29, ?_⟩
  refine ⟨_, rfl, _, aw7, ?_⟩
  refine ⟨_, rfl, _, den29, ?_⟩
  refine ⟨[], [.int .i64 6], [], _, rfl, rfl, rfl, rfl, den30 6, ⟨_, _, _, rfl, rfl, rfl⟩, ?_⟩
  rintro _ _ _ ⟨rfl, rfl, rfl⟩
  refine ⟨_, rfl, _, aw8, ?_⟩
  refine Or.inl ⟨by kernel_rfl, ?_⟩
  refine ⟨fun _ => ?_, fun h => absurd (show true = false from h) (by decide)⟩
  refine ⟨fun _ => ?_, fun h => absurd (show true = false from h) (by decide)⟩
  refine ⟨fun _ => ?_, fun h => absurd (show true = false from h) (by decide)⟩
  refine ⟨fun _ => ?_, fun h => absurd (show true = false from h) (by decide)⟩
  refine ⟨fun _ => ?_, fun h => absurd (show true = false from h) (by decide)⟩
  refine ⟨fun _ => ?_, fun h => absurd (show true = false from h) (by decide)⟩
  refine ⟨fun _ => ?_, fun h => absurd (show true = false from h) (by decide)⟩
  refine ⟨fun _ => ?_, fun h => absurd (show true = false from h) (by decide)⟩
  refine ⟨_, rfl, _, den31 _ _, ?_⟩
  refine ⟨fun _ => ?_, fun h => absurd (show true = false from h) (by decide)⟩
  refine ⟨_, rfl, _, den31 _ _, ?_⟩
  refine ⟨fun _ => ?_, fun h => absurd (show true = false from h) (by decide)⟩
  refine ⟨fun _ => ?_, fun h => absurd (show true = false from h) (by decide)⟩
  refine ⟨fun _ => ?_, fun h => absurd (show true = false from h) (by decide)⟩
  refine ⟨_, rfl, _, den53, ?_⟩
  refine ⟨_, rfl, _, den24 refd refd (by decide), ?_⟩
  refine ⟨fun _ => ?_, fun h => absurd (show true = false from h) (by decide)⟩
  refine ⟨fun _ => ?_, fun h => absurd (show true = false from h) (by decide)⟩
  refine ⟨_, rfl, _, den24 [20, 22, 25, 28] [20, 22, 25, 28] (by decide), ?_⟩
  rfl

end Go.Proofs.Gas
