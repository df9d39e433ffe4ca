/- Refusal returns what the document says. No condition. -/
import Derived.Test.YtekancfhpbbieaaPackHC
import Derived.Test.YtekancfhpbbieaaPackGD

namespace Go.Proofs.Gas
open Go.V Go.Proofs

theorem refusal_short (s : Space) (l : List Rd) (minute : Int) : (s.refusalE l minute).1.length ≤ 61 := by
  have hw : ∀ (xs : List Sp) (t lv : Int), (s.walkT xs t lv).length = xs.length := by
    intro xs
    induction xs with
    | nil => intro t lv; rfl
    | cons x r ih => intro t lv; simp [Space.walkT, ih]
  obtain ⟨v, hv⟩ : ∃ v, s.levelE l minute = v := ⟨_, rfl⟩
  by_cases h0 : v.2 = 0
  · obtain ⟨_, z2, _, _⟩ := levelE_zero (s := s) (l := l) (minute := minute) (by rw [hv]; exact h0)
    unfold Space.refusalE
    split
    · simp
    · split
      · simp
      · simp only [hw, Space.allB, List.length_map, List.length_range]
        omega
  · rw [refusalE_bad hv h0]
    simp

theorem den4 (s : Space) (l : List Rd) (minute : Int) : DN 4 [.agg s.enc, .list 3 (l.map Rd.enc), .int .i64 minute] (.bool true) := by
  refine mk Try.func4 Try.call4 rfl rfl ?_
  have h22 := den22 s l minute
  have h23 := den23 s l minute
  have hlen := refusal_short s l minute
  obtain ⟨⟨a, e⟩, hv⟩ : ∃ v, s.refusalE l minute = v := ⟨_, rfl⟩
  rw [hv] at h22 h23 hlen
  have hlen : a.length ≤ 61 := hlen
  refine ⟨_, rfl, _, h22, ?_⟩
  refine ⟨_, rfl, _, h23, ?_⟩
  refine ⟨_, rfl, _, den24 a a (by omega), ?_⟩
  refine ⟨fun _ => ?_, fun h => absurd rfl (of_decide_eq_false h)⟩
  refine ⟨fun _ => ?_, fun h => absurd (show (e == e) = false from h) (by simp)⟩
  exact ⟨_, rfl, _, den21, rfl⟩

end Go.Proofs.Gas
