/- With a wider space no range of Level is narrower, and no torch may burn longer. No condition. -/
import Derived.Test.YtekancfhpbbieaaPackGQ
import Derived.Test.YtekancfhpbbieaaPackGD
import Derived.Test.YtekancfhpbbieaaPackGL

namespace Go.Proofs.Gas
open Go.V Go.Proofs

set_option maxHeartbeats 2000000 in
theorem den13 (s : Space) (l : List Rd) (w : Wd) (hw : w.ok) : DN 13 [.agg s.enc, .list 3 (l.map Rd.enc), .agg w.enc] (.bool true) := by
  refine mk Try.func13 Try.call13 rfl rfl ?_
  refine ⟨_, rfl, _, den36 s l, ?_⟩
  by_cases h0 : s.readE l = 0
  · rw [h0]
    refine ⟨(fun h => nomatch h), fun _ => ?_⟩
    have hg := good_of h0
    have hv := hg.v
    obtain ⟨w1, w2, w3, w4, w5⟩ := hw
    have hw : w.ok := ⟨w1, w2, w3, w4, w5⟩
    have hst := hv.start
    have hri := hv.rise
    have hbl := hv.blow
    have htl := hv.tlen
    have hlt : ((s.tools.map encT).length : Int) = s.tools.length := by simp
    have hnr := tmod_range w5.1 (k := 61) (by decide)
    obtain ⟨now, hnow⟩ : ∃ now : Nat, w.minute.tmod 61 = now := ⟨(w.minute.tmod 61).toNat, by omega⟩
    rw [hnow] at hnr
    have hn60 : now ≤ 60 := by omega
    refine ⟨w.minute, wrap64 (by omega) (by omega), ?_⟩
    refine ⟨by decide, (now : Int), hnow, ?_⟩
    refine ⟨w.start, wrap64 (by omega) (by omega), ?_⟩
    refine ⟨s.start.lo - w.start, wrap64 (by omega) (by omega), ?_⟩
    refine ⟨w.start, wrap64 (by omega) (by omega), ?_⟩
    refine ⟨s.start.hi + w.start, wrap64 (by omega) (by omega), ?_⟩
    refine ⟨_, rfl, _, den31 _ _, ?_⟩
    refine ⟨w.rise, wrap64 (by omega) (by omega), ?_⟩
    refine ⟨s.rise.lo - w.rise, wrap64 (by omega) (by omega), ?_⟩
    refine ⟨w.rise, wrap64 (by omega) (by omega), ?_⟩
    refine ⟨s.rise.hi + w.rise, wrap64 (by omega) (by omega), ?_⟩
    refine ⟨_, rfl, _, den31 _ _, ?_⟩
    refine ⟨w.blow, wrap64 (by omega) (by omega), ?_⟩
    refine ⟨s.blow.lo - w.blow, wrap64 (by omega) (by omega), ?_⟩
    refine ⟨w.blow, wrap64 (by omega) (by omega), ?_⟩
    refine ⟨s.blow.hi + w.blow, wrap64 (by omega) (by omega), ?_⟩
    refine ⟨_, rfl, _, den31 _ _, ?_⟩
    refine ⟨[1, 3, 5, 7, 8, 9], 3, [(.cell 2 8, 2)], fun σ => ∃ (k g : Nat), k ≤ s.tools.length ∧
      σ = ⟨[(1, .list 3 (l.map Rd.enc)), (3, .loc 0 0), (5, .loc 1 0), (7, .int .i64 now), (8, .loc 2 0), (9, .int .i64 k)],
        [.flat false s.enc, .flat false w.enc, .flat false [.int .i64 (s.wide w).start.lo, .int .i64 (s.wide w).start.hi, .int .i64 (s.wide w).rise.lo, .int .i64 (s.wide w).rise.hi, .int .i64 (s.wide w).blow.lo, .int .i64 (s.wide w).blow.hi, .int .i64 s.limit, .list 2 (s.blows.map Sp.enc), .sl 3 g 0 (((s.tools.take k).map (wideT w.err)).map encT).length],
         .rows false g 2 (((s.tools.take k).map (wideT w.err)).map encT)], .non⟩, fun σ => (1000 - slotI 9 σ).toNat, rfl, ⟨rfl, rfl⟩, ⟨0, 0, Nat.zero_le _, rfl⟩, ?_⟩
    rintro σ ⟨k, g, hk, rfl⟩
    refine ⟨fun h1 => ?_, fun h1 => ?_⟩
    · have h1 : (k : Int) < s.tools.length := by rw [← hlt]; exact of_decide_eq_true h1
      have hk' : k < s.tools.length := by omega
      obtain ⟨x, hx⟩ : ∃ x, s.tools[k] = x := ⟨_, rfl⟩
      have hrow : (s.tools.map encT)[((k : Int)).toNat]? = some (encT x) := by simp [hk', hx]
      have hxr := toolsGood_err hv.tools x (by rw [← hx]; exact List.getElem_mem hk')
      have hall : (((s.tools.take k).map (wideT w.err)).map encT) ++ [encT (wideT w.err x)] = ((s.tools.take (k + 1)).map (wideT w.err)).map encT := by
        rw [List.take_succ_eq_append_getElem hk', hx]; simp
      refine Or.inl ⟨by kernel_rfl, ?_⟩
      refine ⟨by omega, _, hrow, ?_⟩
      refine ⟨by omega, _, hrow, ?_⟩
      refine ⟨w.err, wrap64 (by omega) (by omega), ?_⟩
      refine ⟨x.2 + w.err, wrap64 (by omega) (by omega), ?_⟩
      refine ⟨trivial, iff' (by rw [beq_self]; rfl) ⟨rfl, ?_, _, hall, ?_⟩⟩
      · rw [List.length_map, List.length_map, List.length_take]; show (_ + 1) * 24 ≤ mostBytes; unfold mostBytes; omega
      refine ⟨(k : Int) + 1, wrap64 (by omega) (by omega), ?_⟩
      exact ⟨⟨rfl, rfl⟩, ⟨k + 1, g + 1, by omega, rfl⟩, by show (1000 - ((k : Int) + 1)).toNat < (1000 - (k : Int)).toNat; omega⟩
    · have h1 : ¬ (k : Int) < s.tools.length := by rw [← hlt]; exact of_decide_eq_false h1
      have hkl : k = s.tools.length := by omega
      subst hkl
      rw [List.take_length]
      have h17a := den17 s l now
      have h17b := den17 (s.wide w) l now
      have h19a := den19 s l now
      have h19b := den19 (s.wide w) l now
      have hg' := wide_good hg hw
      obtain ⟨aN, aS⟩ := answers hg hn60
      obtain ⟨bN, bS⟩ := answers hg' hn60
      by_cases hX : s.lv (s.seen l) now = none'
      · rw [(aN hX).1] at h17a
        rw [(aN hX).2] at h19a
        by_cases hY : (s.wide w).lv ((s.wide w).seen l) now = none'
        · rw [(bN hY).1] at h17b
          rw [(bN hY).2] at h19b
          refine ⟨_, rfl, _, h17a, ?_⟩
          refine ⟨_, mapO_cons (reify_agg (mapO_cons rfl (mapO_cons rfl (mapO_cons rfl (mapO_cons rfl (mapO_cons rfl (mapO_cons rfl (mapO_cons rfl (mapO_cons rfl (mapO_cons (reify_sl rfl rfl) rfl)))))))))) (mapO_cons rfl (mapO_cons rfl rfl)), _, h17b, ?_⟩
          refine ⟨_, rfl, _, h19a, ?_⟩
          refine ⟨_, mapO_cons (reify_agg (mapO_cons rfl (mapO_cons rfl (mapO_cons rfl (mapO_cons rfl (mapO_cons rfl (mapO_cons rfl (mapO_cons rfl (mapO_cons rfl (mapO_cons (reify_sl rfl rfl) rfl)))))))))) (mapO_cons rfl (mapO_cons rfl rfl)), _, h19b, ?_⟩
          refine ⟨fun _ => ?_, fun h => nomatch h⟩
          refine ⟨fun _ => ?_, fun h => nomatch h⟩
          refine ⟨fun _ => ?_, fun h => nomatch h⟩
          refine ⟨(fun h => nomatch h), fun _ => ?_⟩
          refine ⟨fun _ => ?_, fun h => nomatch h⟩
          refine ⟨fun _ => ?_, fun h => nomatch h⟩
          exact ⟨_, rfl, _, den21, rfl⟩
        · rw [(bS hY).1] at h17b
          rw [(bS hY).2] at h19b
          refine ⟨_, rfl, _, h17a, ?_⟩
          refine ⟨_, mapO_cons (reify_agg (mapO_cons rfl (mapO_cons rfl (mapO_cons rfl (mapO_cons rfl (mapO_cons rfl (mapO_cons rfl (mapO_cons rfl (mapO_cons rfl (mapO_cons (reify_sl rfl rfl) rfl)))))))))) (mapO_cons rfl (mapO_cons rfl rfl)), _, h17b, ?_⟩
          refine ⟨_, rfl, _, h19a, ?_⟩
          refine ⟨_, mapO_cons (reify_agg (mapO_cons rfl (mapO_cons rfl (mapO_cons rfl (mapO_cons rfl (mapO_cons rfl (mapO_cons rfl (mapO_cons rfl (mapO_cons rfl (mapO_cons (reify_sl rfl rfl) rfl)))))))))) (mapO_cons rfl (mapO_cons rfl rfl)), _, h19b, ?_⟩
          refine ⟨fun _ => ?_, fun h => nomatch h⟩
          refine ⟨fun _ => ?_, fun h => nomatch h⟩
          refine ⟨fun _ => ?_, fun h => nomatch h⟩
          refine ⟨fun _ => ?_, fun h => nomatch h⟩
          refine ⟨fun _ => ?_, fun h => nomatch h⟩
          exact ⟨_, rfl, _, den21, rfl⟩
      · obtain ⟨hY, m1, m2, m3⟩ := wide_more hg hw hX
        rw [(aS hX).1] at h17a
        rw [(aS hX).2] at h19a
        rw [(bS hY).1] at h17b
        rw [(bS hY).2] at h19b
        refine ⟨_, rfl, _, h17a, ?_⟩
        refine ⟨_, mapO_cons (reify_agg (mapO_cons rfl (mapO_cons rfl (mapO_cons rfl (mapO_cons rfl (mapO_cons rfl (mapO_cons rfl (mapO_cons rfl (mapO_cons rfl (mapO_cons (reify_sl rfl rfl) rfl)))))))))) (mapO_cons rfl (mapO_cons rfl rfl)), _, h17b, ?_⟩
        refine ⟨_, rfl, _, h19a, ?_⟩
        refine ⟨_, mapO_cons (reify_agg (mapO_cons rfl (mapO_cons rfl (mapO_cons rfl (mapO_cons rfl (mapO_cons rfl (mapO_cons rfl (mapO_cons rfl (mapO_cons rfl (mapO_cons (reify_sl rfl rfl) rfl)))))))))) (mapO_cons rfl (mapO_cons rfl rfl)), _, h19b, ?_⟩
        refine ⟨(fun h => nomatch h), fun _ => ?_⟩
        refine ⟨fun _ => ?_, fun h => nomatch h⟩
        refine ⟨fun _ => ?_, fun h => nomatch h⟩
        refine ⟨fun _ => ?_, fun h => nomatch h⟩
        refine ⟨fun _ => ?_, fun h => absurd m1 (of_decide_eq_false h)⟩
        refine ⟨fun _ => ?_, fun h => absurd m2 (of_decide_eq_false h)⟩
        refine ⟨fun _ => ?_, fun h => absurd m3 (of_decide_eq_false h)⟩
        exact ⟨_, rfl, _, den21, rfl⟩
  · have hb : (s.readE l != 0) = true := by simpa using h0
    refine ⟨fun _ => ?_, fun h => absurd (hb.symm.trans h) (by decide)⟩
    exact ⟨_, rfl, _, den21, rfl⟩

end Go.Proofs.Gas
