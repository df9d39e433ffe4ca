/- Holds and Fewest return what the document says. No condition. -/
import Derived.Test.YtekancfhpbbieaaPackGJ
import Derived.Test.YtekancfhpbbieaaPackGD

namespace Go.Proofs.Gas
open Go.V Go.Proofs

theorem chainF_len (H : Int → Int) (to : Int) (pk : Int → Int) : ∀ f a, (chainF H to pk f a).length ≤ f
  | 0, _ => Nat.le_refl _
  | f + 1, a => by
    rw [chainF]
    split
    · have := chainF_len H to pk f (H (pk a) + 1)
      simp; omega
    · simp
theorem fewest_len (s : Space) (tool shown frm to : Int) : (s.fewestE tool shown frm to).1.length < 1000000 := by
  unfold Space.fewestE
  cases (s.tooledE tool shown [frm, to]).2 != 0 with
  | true => simp
  | false =>
    cases decide (frm > to) with
    | true => simp
    | false =>
      cases decide (needN (s.holdsE tool shown) frm to frm ≥ 62) with
      | true => simp
      | false =>
        have := chainF_len (s.holdsE tool shown) to (pickN (s.holdsE tool shown) frm to) 62 frm
        simp only
        omega

theorem den5 (s : Space) (a b c d : Int) : DN 5 [.agg s.enc, .agg [.int .i64 a, .int .i64 b, .int .i64 c, .int .i64 d]] (.bool true) := by
  refine mk Try.func5 Try.call5 rfl rfl ?_
  have nes : ∀ n : Int, (n != n) = false := fun n => by simp
  have eqs : ∀ n : Int, (n == n) = true := fun n => by simp
  obtain ⟨u, hu⟩ : ∃ u, s.holds2 a b c = u := ⟨_, rfl⟩
  have h25 := den25 s a b c
  have h26 := den26 s a b c
  rw [hu] at h25 h26
  have hl := fewest_len s a b c d
  obtain ⟨v, hv⟩ : ∃ v, s.fewestE a b c d = v := ⟨_, rfl⟩
  have h27 := den27 s a b c d
  have h28 := den28 s a b c d
  rw [hv] at h27 h28 hl
  refine ⟨by decide, ?_⟩
  refine ⟨by decide, ?_⟩
  refine ⟨by decide, ?_⟩
  refine ⟨_, rfl, _, h25, ?_⟩
  refine ⟨by decide, ?_⟩
  refine ⟨by decide, ?_⟩
  refine ⟨by decide, ?_⟩
  refine ⟨_, rfl, _, h26, ?_⟩
  refine ⟨fun h => absurd ((nes _).symm.trans h) (by decide), fun _ => ?_⟩
  refine ⟨fun h => absurd ((nes _).symm.trans h) (by decide), fun _ => ?_⟩
  refine ⟨by decide, ?_⟩
  refine ⟨by decide, ?_⟩
  refine ⟨by decide, ?_⟩
  refine ⟨by decide, ?_⟩
  refine ⟨_, rfl, _, h27, ?_⟩
  refine ⟨by decide, ?_⟩
  refine ⟨by decide, ?_⟩
  refine ⟨by decide, ?_⟩
  refine ⟨by decide, ?_⟩
  refine ⟨_, rfl, _, h28, ?_⟩
  refine ⟨_, rfl, _, den24 v.1 v.1 hl, ?_⟩
  have h24 : decide (v.1 = v.1) = true := by simp
  refine ⟨fun _ => ?_, fun h => absurd (h24.symm.trans h) (by decide)⟩
  refine ⟨fun _ => ?_, fun h => absurd ((eqs _).symm.trans h) (by decide)⟩
  exact ⟨_, rfl, _, den21, rfl⟩

end Go.Proofs.Gas
