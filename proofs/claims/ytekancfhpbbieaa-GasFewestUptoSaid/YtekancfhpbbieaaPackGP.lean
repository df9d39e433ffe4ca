/- The more a reading shows the shorter it holds. No condition. -/
import Derived.Test.YtekancfhpbbieaaPackGO
import Derived.Test.YtekancfhpbbieaaPackGL
import Derived.Test.YtekancfhpbbieaaPackGJ
import Derived.Test.YtekancfhpbbieaaPackGD

namespace Go.Proofs.Gas
open Go.V Go.Proofs

theorem on_hi_mono {s : Space} (hv : s.Valid) (t : Int) {x y : Sp} (hx : x.lev) (hy : y.lev) (hxn : ¬ x = none') (hyn : ¬ y = none') (h : x.hi ≤ y.hi) : ∀ i, (s.on t x i).hi ≤ (s.on t y i).hi
  | 0 => h
  | i + 1 => by
    have ih := on_hi_mono hv t hx hy hxn hyn h i
    rw [on_hi hv t hx hxn i, on_hi hv t hy hyn i]
    unfold limited; omega

theorem point_lev {a : Int} (h : 0 ≤ a ∧ a ≤ 200) : Sp.lev ⟨a, a⟩ ∧ ¬ (⟨a, a⟩ : Sp) = none' := by
  refine ⟨.inr ⟨h.1, Int.le_refl _, h.2⟩, fun e => ?_⟩
  have h1 := congrArg Sp.lo e
  have h2 := congrArg Sp.hi e
  simp only [none'] at h1 h2
  omega

theorem holdsE_on {s : Space} {tool shown : Int} {now : Nat} (hn : now ≤ 60) (h : ¬ s.level0 tool shown < 0) : s.holdsE tool shown now = s.untilOn now ⟨s.level0 tool shown, s.level0 tool shown⟩ := by
  rw [holdsE_pos h, follow_free s [] now hn]
  rfl

theorem untilOn_hi {s : Space} (hv : s.Valid) {now : Nat} {x y : Sp} (hx : x.lev) (hy : y.lev) (hxn : ¬ x = none') (hyn : ¬ y = none') (h : x.hi ≤ y.hi) : s.untilOn now y ≤ s.untilOn now x :=
  untilOn_mono fun i _ hi => Int.le_trans (on_hi_mono hv now hx hy hxn hyn h i) hi

theorem untilOn_range (s : Space) {now : Nat} (hn : now ≤ 60) (x : Sp) : -1 ≤ s.untilOn now x ∧ s.untilOn now x ≤ 60 := by
  unfold Space.untilOn
  rcases untilL_mem s.limit (s.onL now x) (-1) with h | ⟨z, h1, h2⟩
  · rw [h]; omega
  · rw [h2]
    obtain ⟨i, hi⟩ := List.mem_iff_getElem?.1 h1
    rw [onL_get] at hi
    split at hi
    · cases hi; simp only; omega
    · cases hi

set_option maxHeartbeats 1000000 in
theorem den14 (s : Space) (a b c d : Int) (ha : 0 ≤ a ∧ a < 256) (hb : 0 ≤ b ∧ b < 256) (hc : 0 ≤ c ∧ c < 256) (hd : 0 ≤ d ∧ d < 256) :
    DN 14 [.agg s.enc, .agg [.int .u8 a, .int .u8 b, .int .u8 c, .int .u8 d]] (.bool true) := by
  refine mk Try.func14 Try.call14 rfl rfl ?_
  refine ⟨_, rfl, _, den32 s, ?_⟩
  refine ⟨fun h0 => ?_, fun h0 => ?_⟩
  · have h0 : (!(s.err0 == 0)) = true := h0
    have he : s.err0 ≠ 0 := by simpa using h0
    have hb' : (s.err0 != 0) = true := by simpa using he
    have h25 := den25 s 0 0 0
    have ht : s.tooledE 0 0 [0] = (none, s.err0) := by unfold Space.tooledE; simp only [hb']
    have hh : s.holds2 0 0 0 = (0, s.err0) := by unfold Space.holds2; rw [ht]; simp only [hb']
    rw [hh] at h25
    refine ⟨_, rfl, _, h25, ?_⟩
    refine ⟨fun _ => ?_, fun h => absurd (hb'.symm.trans h) (by decide)⟩
    exact ⟨_, rfl, _, den21, rfl⟩
  have h0 : (!(s.err0 == 0)) = false := h0
  have he0 : s.err0 = 0 := by simpa using h0
  have hv : s.Valid := s.valid_iff.1 he0
  have hlt : ((s.tools.map encT).length : Int) = s.tools.length := by simp
  have htl := hv.tlen
  obtain ⟨tool, htool⟩ : ∃ tool, a.tmod s.tools.length = tool := ⟨_, rfl⟩
  have htr := tmod_range ha.1 (k := s.tools.length) (by omega)
  rw [htool] at htr
  obtain ⟨now, hnow⟩ : ∃ now : Nat, d.tmod 61 = now := ⟨(d.tmod 61).toNat, by have := tmod_range hd.1 (k := 61) (by decide); omega⟩
  have hnr := tmod_range hd.1 (k := 61) (by decide)
  rw [hnow] at hnr
  have hn60 : now ≤ 60 := by omega
  obtain ⟨shown, hshown⟩ : ∃ shown, b.tmod 251 = shown := ⟨_, rfl⟩
  have hsr := tmod_range hb.1 (k := 251) (by decide)
  rw [hshown] at hsr
  have her := hv.err tool
  -- what holds, and until when
  have h2 : ∀ sh : Int, 0 ≤ sh → sh ≤ 250 → s.holds2 tool sh now = (s.holdsE tool sh now, 0) := fun sh h1 h2 => by
    have ht : s.tooledE tool sh [(now : Int)] = (some [], 0) := by
      have e1 : (s.err0 != 0) = false := by simpa using he0
      have e2 : [tool].any (outB 0 ((s.tools.length : Int) - 1)) = false := by simp [outB]; omega
      have e3 : ([sh].any (outB (-50) 250) || [(now : Int)].any (outB 0 60)) = false := by simp [outB]; omega
      unfold Space.tooledE; simp only [e1, e2, e3]
    unfold Space.holds2; rw [ht]; rfl
  have hlev : ∀ sh : Int, 0 ≤ sh → 0 ≤ s.level0 tool sh ∧ s.level0 tool sh ≤ 200 := fun sh h => by unfold Space.level0; omega
  have hh : ∀ sh : Int, 0 ≤ sh → s.holdsE tool sh now = s.untilOn now ⟨s.level0 tool sh, s.level0 tool sh⟩ := fun sh h => holdsE_on hn60 (by have := hlev sh h; omega)
  obtain ⟨more, hmore⟩ : ∃ more, min 250 (shown + c) = more := ⟨_, rfl⟩
  have h25a := den25 s tool shown now
  have h25b := den25 s tool more now
  rw [h2 shown (by omega) (by omega), hh shown (by omega)] at h25a
  rw [h2 more (by omega) (by omega), hh more (by omega)] at h25b
  have hp1 := point_lev (hlev shown (by omega))
  have hp2 := point_lev (hlev more (by omega))
  have hmn := untilOn_hi hv (now := now) hp1.1 hp2.1 hp1.2 hp2.2 (by simp only [Space.level0]; omega)
  have hnrange := untilOn_range s hn60 ⟨s.level0 tool shown, s.level0 tool shown⟩
  have hg : s.good [⟨now, tool, shown⟩] := ⟨hv, by simp, fun r hr => by
    rw [List.mem_singleton.1 hr]
    exact readBad_ok.2 ⟨by simp only; omega, by simp only; omega, by simp only; omega⟩⟩
  have h19 := den19 s [⟨now, tool, shown⟩] now
  obtain ⟨aN, aS⟩ := answers hg hn60
  have hu : ¬ s.lv (s.seen [⟨now, tool, shown⟩]) now = none' → s.untilOn now ⟨s.level0 tool shown, s.level0 tool shown⟩ ≤ s.untilOn now (s.lv (s.seen [⟨now, tool, shown⟩]) now) := fun hne => by
    have hll := lv_lev hv (s.seen [⟨now, tool, shown⟩]) now
    refine untilOn_hi hv hll hp1.1 hne hp1.2 ?_
    rcases hll with h | h
    · exact absurd h hne
    · have h3 := lv_in s (s.seen [⟨now, tool, shown⟩]) now (s.lv (s.seen [⟨now, tool, shown⟩]) now).hi (inB_iff.2 ⟨h.2.1, Int.le_refl _⟩)
      rw [left_seen hg.ok _ _ (by omega)] at h3
      have h4 : s.fits now (s.lv (s.seen [⟨now, tool, shown⟩]) now).hi ⟨now, tool, shown⟩ = true := by
        unfold Space.agrees at h3
        simpa using h3
      rw [fits_in, if_pos rfl] at h4
      have h5 := inB_iff.1 h4
      simp only [Space.level0] at h5 ⊢
      omega
  obtain ⟨n, hn⟩ : ∃ n, s.untilOn now ⟨s.level0 tool shown, s.level0 tool shown⟩ = n := ⟨_, rfl⟩
  obtain ⟨m, hm⟩ : ∃ m, s.untilOn now ⟨s.level0 tool more, s.level0 tool more⟩ = m := ⟨_, rfl⟩
  rw [hn] at h25a hmn hnrange hu
  rw [hm] at h25b hmn
  refine Or.inl ⟨by kernel_rfl, ?_⟩
  refine ⟨by decide, ?_⟩
  refine ⟨a, wrap64 (by omega) (by omega), ?_⟩
  refine ⟨by rw [hlt]; omega, tool, by rw [hlt]; exact htool, ?_⟩
  refine ⟨by decide, ?_⟩
  refine ⟨d, wrap64 (by omega) (by omega), ?_⟩
  refine ⟨by decide, (now : Int), hnow, ?_⟩
  refine ⟨by decide, ?_⟩
  refine ⟨b, wrap64 (by omega) (by omega), ?_⟩
  refine ⟨by decide, shown, hshown, ?_⟩
  refine ⟨by decide, ?_⟩
  refine ⟨c, wrap64 (by omega) (by omega), ?_⟩
  refine ⟨shown + c, wrap64 (by omega) (by omega), ?_⟩
  refine ⟨_, rfl, _, h25a, ?_⟩
  rw [← hmore] at h25b
  refine ⟨_, rfl, _, h25b, ?_⟩
  by_cases hne : s.lv (s.seen [⟨now, tool, shown⟩]) now = none'
  · rw [(aN hne).2] at h19
    refine ⟨_, rfl, _, h19, ?_⟩
    refine ⟨(fun h => nomatch h), fun _ => ?_⟩
    refine ⟨(fun h => nomatch h), fun _ => ?_⟩
    refine ⟨fun h => absurd (of_decide_eq_true h) (by omega), fun _ => ?_⟩
    refine ⟨fun h => absurd (of_decide_eq_true h) (by omega), fun _ => ?_⟩
    refine ⟨fun h => absurd (of_decide_eq_true h) (by omega), fun _ => ?_⟩
    refine ⟨fun _ => ?_, fun h => nomatch h⟩
    exact ⟨_, rfl, _, den21, rfl⟩
  · have hu := hu hne
    rw [(aS hne).2] at h19
    refine ⟨_, rfl, _, h19, ?_⟩
    refine ⟨(fun h => nomatch h), fun _ => ?_⟩
    refine ⟨(fun h => nomatch h), fun _ => ?_⟩
    refine ⟨fun h => absurd (of_decide_eq_true h) (by omega), fun _ => ?_⟩
    refine ⟨fun h => absurd (of_decide_eq_true h) (by omega), fun _ => ?_⟩
    refine ⟨fun h => absurd (of_decide_eq_true h) (by omega), fun _ => ?_⟩
    refine ⟨(fun h => nomatch h), fun _ => ?_⟩
    refine ⟨fun _ => ?_, fun h => nomatch h⟩
    refine ⟨fun _ => ?_, fun h => absurd hu (of_decide_eq_false h)⟩
    exact ⟨_, rfl, _, den21, rfl⟩

end Go.Proofs.Gas
