/- A further reading. Readings take no more memory than there is. No condition. -/
import Derived.Test.YtekancfhpbbieaaPackGW
import Derived.Test.YtekancfhpbbieaaPackGD
import Derived.Test.YtekancfhpbbieaaPackGL

namespace Go.Proofs.Gas
open Go.V Go.Proofs

set_option maxHeartbeats 2000000 in
theorem den10 (s : Space) (l : List Rd) (r : Rd) (m : Int) (hm : 0 ≤ m ∧ m < 256) (hl : l.length * 24 ≤ 140737488351232) :
    DN 10 [.agg s.enc, .list 3 (l.map Rd.enc), .agg [.int .i64 r.minute, .int .i64 r.tool, .int .i64 r.shown, .int .u8 m]] (.bool true) := by
  refine mk Try.func10 Try.call10 rfl rfl ?_
  have hlen : (l.map Rd.enc).length = l.length := by simp
  have hcat : l.map Rd.enc ++ [Rd.enc r] = (l ++ [r]).map Rd.enc := by simp
  refine Or.inr (Or.inl ⟨6, [], by kernel_rfl, ?_⟩)
  refine ⟨trivial, ?_, ?_⟩
  · show (l.map Rd.enc).length * 24 ≤ mostBytes
    rw [hlen]; unfold mostBytes; omega
  refine ⟨trivial, iff' (by rw [beq_self]; rfl) ⟨rfl, ?_, _, hcat, ?_⟩⟩
  · show ((l.map Rd.enc).length + 1) * 24 ≤ mostBytes
    rw [hlen]; unfold mostBytes; omega
  refine ⟨trivial, ?_⟩
  refine ⟨trivial, ?_⟩
  refine ⟨_, mapO_cons rfl (mapO_cons (reify_sl rfl rfl) rfl), _, den36 s (l ++ [r]), ?_⟩
  by_cases h0 : s.readE (l ++ [r]) = 0
  · rw [h0]
    refine ⟨(fun h => nomatch h), fun _ => ?_⟩
    have hg := good_of h0
    have hg' : s.good l := good_sub hg (by have := hg.len; simp at this; omega) fun q hq => by simp [hq]
    have hmr := tmod_range hm.1 (k := 61) (by decide)
    obtain ⟨now, hnow⟩ : ∃ now : Nat, m.tmod 61 = now := ⟨(m.tmod 61).toNat, by omega⟩
    rw [hnow] at hmr
    have hn : now ≤ 60 := by omega
    have hfit : ∀ t n : Int, s.agrees (l ++ [r]) t n = (s.agrees l t n && s.fits t n r) := fun t n => by
      unfold Space.agrees; simp
    refine ⟨m, wrap64 (by omega) (by omega), ?_⟩
    refine ⟨by decide, (now : Int), hnow, ?_⟩
    have h17a := den17 s l now
    have h17b := den17 s (l ++ [r]) now
    have h19a := den19 s l now
    have h19b := den19 s (l ++ [r]) now
    obtain ⟨aN, aS⟩ := answers hg' hn
    obtain ⟨bN, bS⟩ := answers hg hn
    by_cases hlate : r.minute > now
    · have hsame := lv_same (now := now) hg' hg fun t ht n => by
        rw [hfit, fits_other (by omega), Bool.and_true]
      have e17 : s.levelE (l ++ [r]) now = s.levelE l now := by
        by_cases hX : s.lv (s.seen l) now = none'
        · rw [(aN hX).1, (bN (hsame ▸ hX)).1]
        · rw [(aS hX).1, (bS (hsame ▸ hX)).1, hsame]
      have e19 : s.untilE (l ++ [r]) now = s.untilE l now := by
        by_cases hX : s.lv (s.seen l) now = none'
        · rw [(aN hX).2, (bN (hsame ▸ hX)).2]
        · rw [(aS hX).2, (bS (hsame ▸ hX)).2, hsame]
      rw [e17] at h17b
      rw [e19] at h19b
      obtain ⟨a, ha⟩ : ∃ a, s.levelE l now = a := ⟨_, rfl⟩
      obtain ⟨b, hb⟩ : ∃ b, s.untilE l now = b := ⟨_, rfl⟩
      rw [ha] at h17a h17b
      rw [hb] at h19a h19b
      refine ⟨_, rfl, _, h17a, ?_⟩
      refine ⟨_, mapO_cons rfl (mapO_cons (reify_sl rfl rfl) (mapO_cons rfl rfl)), _, h17b, ?_⟩
      refine ⟨_, rfl, _, h19a, ?_⟩
      refine ⟨_, mapO_cons rfl (mapO_cons (reify_sl rfl rfl) (mapO_cons rfl rfl)), _, h19b, ?_⟩
      refine ⟨fun _ => ?_, fun h => absurd hlate (of_decide_eq_false h)⟩
      refine ⟨fun _ => ?_, fun h => absurd (show (((a.1.lo == a.1.lo) && ((a.1.hi == a.1.hi) && true)) = false) from h) (by simp)⟩
      refine ⟨fun _ => ?_, fun h => absurd (show (a.2 == a.2) = false from h) (by simp)⟩
      refine ⟨fun _ => ?_, fun h => absurd (show (b.1 == b.1) = false from h) (by simp)⟩
      refine ⟨fun _ => ?_, fun h => absurd (show (b.2 == b.2) = false from h) (by simp)⟩
      exact ⟨_, rfl, _, den21, rfl⟩
    · have htight := fun hne => tight_more hg' hg (now := now) (fun t n h => by rw [hfit, Bool.and_eq_true] at h; exact h.1) hne
      by_cases hX : s.lv (s.seen l) now = none'
      · have hY : s.lv (s.seen (l ++ [r])) now = none' := Classical.byContradiction fun hn => (htight hn).1 hX
        rw [(aN hX).1] at h17a
        rw [(aN hX).2] at h19a
        rw [(bN hY).1] at h17b
        rw [(bN hY).2] at h19b
        refine ⟨_, rfl, _, h17a, ?_⟩
        refine ⟨_, mapO_cons rfl (mapO_cons (reify_sl rfl rfl) (mapO_cons rfl rfl)), _, h17b, ?_⟩
        refine ⟨_, rfl, _, h19a, ?_⟩
        refine ⟨_, mapO_cons rfl (mapO_cons (reify_sl rfl rfl) (mapO_cons rfl rfl)), _, h19b, ?_⟩
        refine ⟨fun h => absurd (of_decide_eq_true h) hlate, fun _ => ?_⟩
        refine ⟨fun _ => ?_, fun h => nomatch h⟩
        refine ⟨fun _ => ?_, fun h => nomatch h⟩
        refine ⟨fun _ => ?_, fun h => nomatch h⟩
        refine ⟨fun _ => ?_, fun h => nomatch h⟩
        refine ⟨fun _ => ?_, fun h => nomatch h⟩
        exact ⟨_, rfl, _, den21, rfl⟩
      · rw [(aS hX).1] at h17a
        rw [(aS hX).2] at h19a
        by_cases hY : s.lv (s.seen (l ++ [r])) now = none'
        · rw [(bN hY).1] at h17b
          rw [(bN hY).2] at h19b
          refine ⟨_, rfl, _, h17a, ?_⟩
          refine ⟨_, mapO_cons rfl (mapO_cons (reify_sl rfl rfl) (mapO_cons rfl rfl)), _, h17b, ?_⟩
          refine ⟨_, rfl, _, h19a, ?_⟩
          refine ⟨_, mapO_cons rfl (mapO_cons (reify_sl rfl rfl) (mapO_cons rfl rfl)), _, h19b, ?_⟩
          refine ⟨fun h => absurd (of_decide_eq_true h) hlate, fun _ => ?_⟩
          refine ⟨(fun h => nomatch h), fun _ => ?_⟩
          refine ⟨fun _ => ?_, fun h => nomatch h⟩
          refine ⟨fun _ => ?_, fun h => nomatch h⟩
          refine ⟨fun _ => ?_, fun h => nomatch h⟩
          refine ⟨fun _ => ?_, fun h => nomatch h⟩
          exact ⟨_, rfl, _, den21, rfl⟩
        · obtain ⟨_, m1, m2, m3⟩ := htight hY
          rw [(bS hY).1] at h17b
          rw [(bS hY).2] at h19b
          refine ⟨_, rfl, _, h17a, ?_⟩
          refine ⟨_, mapO_cons rfl (mapO_cons (reify_sl rfl rfl) (mapO_cons rfl rfl)), _, h17b, ?_⟩
          refine ⟨_, rfl, _, h19a, ?_⟩
          refine ⟨_, mapO_cons rfl (mapO_cons (reify_sl rfl rfl) (mapO_cons rfl rfl)), _, h19b, ?_⟩
          refine ⟨fun h => absurd (of_decide_eq_true h) hlate, fun _ => ?_⟩
          refine ⟨(fun h => nomatch h), fun _ => ?_⟩
          refine ⟨(fun h => nomatch h), fun _ => ?_⟩
          refine ⟨fun _ => ?_, fun h => nomatch h⟩
          refine ⟨fun _ => ?_, fun h => nomatch h⟩
          refine ⟨fun _ => ?_, fun h => absurd m1 (of_decide_eq_false h)⟩
          refine ⟨fun _ => ?_, fun h => absurd m2 (of_decide_eq_false h)⟩
          refine ⟨fun _ => ?_, fun h => absurd m3 (of_decide_eq_false h)⟩
          exact ⟨_, rfl, _, den21, rfl⟩
  · have hb : (s.readE (l ++ [r]) != 0) = true := by simpa using h0
    refine ⟨fun _ => ?_, fun h => absurd (hb.symm.trans h) (by decide)⟩
    exact ⟨_, rfl, _, den21, rfl⟩

end Go.Proofs.Gas
