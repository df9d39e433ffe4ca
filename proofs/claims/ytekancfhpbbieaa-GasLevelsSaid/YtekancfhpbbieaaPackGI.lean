/- Check, Level and Until return what the document says. No condition. -/
import Derived.Test.YtekancfhpbbieaaPackGH
import Derived.Test.YtekancfhpbbieaaPackGD

namespace Go.Proofs.Gas
open Go.V Go.Proofs

theorem ne_self (n : Int) : (n != n) = false := by simp
theorem eq_self' (n : Int) : (n == n) = true := by simp

theorem den3 (s : Space) (l : List Rd) (minute : Int) : DN 3 [.agg s.enc, .list 3 (l.map Rd.enc), .int .i64 minute] (.bool true) := by
  refine mk Try.func3 Try.call3 rfl rfl ?_
  obtain ⟨c, hc⟩ : ∃ c, s.check = c := ⟨_, rfl⟩
  have h15 := den15 s
  have h16 := den16 s
  rw [hc] at h15 h16
  obtain ⟨v, hv⟩ : ∃ v, s.levelE l minute = v := ⟨_, rfl⟩
  have h17 := den17 s l minute
  have h18 := den18 s l minute
  rw [hv] at h17 h18
  obtain ⟨u, hu⟩ : ∃ u, s.untilE l minute = u := ⟨_, rfl⟩
  have h19 := den19 s l minute
  have h20 := den20 s l minute
  rw [hu] at h19 h20
  refine ⟨_, rfl, _, h15, ?_⟩
  refine ⟨_, rfl, _, h16, ?_⟩
  refine ⟨fun h => absurd ((ne_self _).symm.trans h) (by decide), fun _ => ?_⟩
  refine ⟨fun h => absurd ((ne_self _).symm.trans h) (by decide), fun _ => ?_⟩
  refine ⟨fun h => absurd ((ne_self _).symm.trans h) (by decide), fun _ => ?_⟩
  refine ⟨_, rfl, _, h17, ?_⟩
  refine ⟨_, rfl, _, h18, ?_⟩
  have hsp : (!(v.1.lo == v.1.lo && (v.1.hi == v.1.hi && true))) = false := by simp
  refine ⟨fun h => absurd (hsp.symm.trans h) (by decide), fun _ => ?_⟩
  refine ⟨fun h => absurd ((ne_self _).symm.trans h) (by decide), fun _ => ?_⟩
  refine ⟨_, rfl, _, h19, ?_⟩
  refine ⟨_, rfl, _, h20, ?_⟩
  refine ⟨fun _ => ?_, fun h => absurd ((eq_self' _).symm.trans h) (by decide)⟩
  refine ⟨fun _ => ?_, fun h => absurd ((eq_self' _).symm.trans h) (by decide)⟩
  exact ⟨_, rfl, _, den21, rfl⟩

end Go.Proofs.Gas
