/- In any truth the level is in the range of Level, and at most Limit as long as Until says. No condition. -/
import Derived.Test.YtekancfhpbbieaaPackGL
import Derived.Test.YtekancfhpbbieaaPackGD
import Derived.Test.YtekancfhpbbieaaPackGH

namespace Go.Proofs.Gas
open Go.V Go.Proofs

theorem rdE_ok {s : Space} (hv : s.Valid) {f : Nat → Int} (hf : ∀ t, 0 ≤ f t ∧ f t ≤ 200) {p : Pa} (hp : p.ok) (i : Nat) : s.readBad (rdE s f p i) = 0 ∧ ∀ t : Nat, t ≤ 60 → s.fits t (f t) (rdE s f p i) = true := by
  have hm : 0 ≤ (p.minutes[i]?).getD 0 := by
    cases h : p.minutes[i]? with
    | none => exact Int.le_refl 0
    | some v => exact (hp.minutes v (List.mem_of_getElem? h)).1
  have hmr := tmod_range hm (k := 61) (by decide)
  have hw := turn_in hp.wrongs (by decide) i
  have htl := hv.tlen
  have htr := tmod_range hw.1 (k := s.tools.length) (by omega)
  obtain ⟨mn, hmn⟩ : ∃ mn, ((p.minutes[i]?).getD 0).tmod 61 = mn := ⟨_, rfl⟩
  obtain ⟨tool, htool⟩ : ∃ tool, (turnE p.wrongs i).tmod s.tools.length = tool := ⟨_, rfl⟩
  have hrd : rdE s f p i = ⟨mn, tool, amongE ⟨f mn.toNat - s.err tool, f mn.toNat + s.err tool⟩ (turnE p.wrongs i)⟩ := by
    unfold rdE; rw [hmn, htool]
  rw [hmn] at hmr
  rw [htool] at htr
  have he := hv.err tool
  have hfm := hf mn.toNat
  have ham := among_in (x := ⟨f mn.toNat - s.err tool, f mn.toNat + s.err tool⟩) (by simp only; omega) hw.1
  simp only at ham
  rw [hrd]
  refine ⟨readBad_ok.2 ⟨⟨htr.1, htr.2⟩, ⟨hmr.1, by simp only; omega⟩, by simp only; omega, by simp only; omega⟩, fun t ht => ?_⟩
  rw [fits_in]
  by_cases hc : (t : Int) = mn
  · rw [if_pos hc]
    have : mn.toNat = t := by omega
    rw [this] at ham ⊢
    exact inB_iff.2 ⟨by simp only; omega, by simp only; omega⟩
  · rw [if_neg hc]

theorem rds_good {s : Space} (hv : s.Valid) {f : Nat → Int} (hf : ∀ t, 0 ≤ f t ∧ f t ≤ 200) {p : Pa} (hp : p.ok) : s.good (rdsE s f p) ∧ ∀ t : Nat, t ≤ 60 → s.agrees (rdsE s f p) t (f t) = true := by
  refine ⟨⟨hv, ?_, fun r hr => ?_⟩, fun t ht => ?_⟩
  · unfold rdsE; simp; omega
  · obtain ⟨i, _, rfl⟩ := List.mem_map.1 hr
    exact (rdE_ok hv hf hp i).1
  · unfold Space.agrees
    rw [List.all_eq_true]
    intro r hr
    obtain ⟨i, _, rfl⟩ := List.mem_map.1 hr
    exact (rdE_ok hv hf hp i).2 t ht

theorem good_read {s : Space} {l : List Rd} (h : s.good l) : s.readE l = 0 := readE_zero.2 ⟨h.v, h.len, readsE_zero.2 h.ok⟩

theorem tl_path {s : Space} (hv : s.Valid) {x : List Int} (hx : inL x 65536) : s.path (s.tl x) 60 := by
  have hst := hv.start
  refine ⟨?_, fun t _ => ?_⟩
  · have := among_in (x := s.start) (by omega) (turn_in hx (by decide) 0).1
    exact inB_iff.2 this
  · have hr := riseAt_le hv t
    have := among_in (x := s.riseAt t) hr.2.1 (turn_in hx (by decide) ((t : Int) + 1)).1
    rw [Space.tl]
    unfold limited
    omega

/-- What Level returns where levels are. -/
theorem level_of {s : Space} {l : List Rd} (h : s.good l) {now : Nat} (hn : now ≤ 60) {v : Int} (hin : inB v (s.lv (s.seen l) now) = true) :
    s.levelE l now = (s.lv (s.seen l) now, 0) ∧ s.untilE l now = (untilL s.limit (s.follow (s.seen l) now (61 - (now : Int)).toNat now (s.lv (s.seen l) now)) (-1), 0) := by
  have hne : ¬ s.lv (s.seen l) now = none' := fun e => by rw [e, inB_none] at hin; cases hin
  have h1 := levelE_eq (minute := (now : Int)) (good_read h) (by omega)
  rw [Int.toNat_natCast, if_neg hne] at h1
  exact ⟨h1, untilE_ok h1 rfl⟩

theorem den7 (s : Space) (p : Pa) (hp : p.ok) : DN 7 [.agg s.enc, .agg p.enc] (.bool true) := by
  refine mk Try.func7 Try.call7 rfl rfl ?_
  refine ⟨_, rfl, _, den32 s, ?_⟩
  refine ⟨fun h0 => ?_, fun h0 => ?_⟩
  · have h0 : (!(s.err0 == 0)) = true := h0
    have he : s.err0 ≠ 0 := by simpa using h0
    have hr : s.readE [] = s.err0 := by
      have : (s.err0 != 0) = true := by simpa using he
      unfold Space.readE; simp only [this]
    have h17 := nil17 s 0
    rw [levelE_read (by rw [hr]; exact he), hr] at h17
    have hb : (s.err0 != 0) = true := by simpa using he
    refine ⟨_, rfl, _, h17, ?_⟩
    refine ⟨fun _ => ?_, fun h => absurd (hb.symm.trans h) (by decide)⟩
    exact ⟨_, rfl, _, den21, rfl⟩
  have h0 : (!(s.err0 == 0)) = false := h0
  have hv : s.Valid := s.valid_iff.1 (by simpa using h0)
  obtain ⟨f, hf⟩ : ∃ f, s.tl p.levels = f := ⟨_, rfl⟩
  have hfr : ∀ t, 0 ≤ f t ∧ f t ≤ 200 := fun t => by rw [← hf]; exact tl_in hv hp.levels t
  have hpath : s.path f 60 := by rw [← hf]; exact tl_path hv hp.levels
  have h33 := den33 s hv p.levels hp.levels
  rw [hf] at h33
  obtain ⟨hg, hag⟩ := rds_good hv hfr hp
  have h34 := den34 s hv f hfr p hp
  obtain ⟨l, hl⟩ : ∃ l, rdsE s f p = l := ⟨_, rfl⟩
  rw [hl] at hg hag h34
  have hnr := tmod_range hp.now.1 (k := 61) (by decide)
  obtain ⟨now, hnow⟩ : ∃ now : Nat, p.now.tmod 61 = now := ⟨(p.now.tmod 61).toNat, by omega⟩
  rw [hnow] at hnr
  have hn60 : now ≤ 60 := by omega
  have hin := path_lv hv hg.ok hpath (Nat.le_refl 60) hag now hn60
  obtain ⟨hL, hU⟩ := level_of hg hn60 hin
  have h17 := den17 s l now
  have h19 := den19 s l now
  obtain ⟨X, hX⟩ : ∃ X, s.lv (s.seen l) now = X := ⟨_, rfl⟩
  obtain ⟨n, hn⟩ : ∃ n, untilL s.limit (s.follow (s.seen l) now (61 - (now : Int)).toNat now (s.lv (s.seen l) now)) (-1) = n := ⟨_, rfl⟩
  have hnrange := untilL_range s (s.seen l) now now (by omega) (s.lv (s.seen l) now)
  have hule := fun (i : Nat) (hi : now + i ≤ 60) => until_le hv l hn60 hi
  rw [hn] at hU hnrange hule
  rw [hX] at hL hule
  rw [hL] at h17
  rw [hU] at h19
  have honf := path_on hpath hin
  rw [hX] at honf
  rw [hX] at hin
  have hins : inR (f now) X.lo X.hi = true := by
    have := inB_iff.1 hin
    simp [inR]; omega
  have hfget : ∀ t : Int, 0 ≤ t → t ≤ 60 → (((List.range 61).map f).map encI)[t.toNat]? = some (encI (f t.toNat)) := fun t h1 h2 => by
    rw [List.getElem?_map, List.getElem?_map, List.getElem?_range (by omega)]; rfl
  refine ⟨_, rfl, _, h33, ?_⟩
  refine Or.inl ⟨by kernel_rfl, ?_⟩
  refine ⟨_, rfl, _, h34, ?_⟩
  refine ⟨p.now, wrap64 (by have := hp.now; omega) (by have := hp.now; omega), ?_⟩
  refine ⟨by decide, (now : Int), hnow, ?_⟩
  refine ⟨_, rfl, _, h17, ?_⟩
  refine ⟨_, rfl, _, h19, ?_⟩
  refine Or.inl ⟨by kernel_rfl, ?_⟩
  refine ⟨(fun h => nomatch h), fun _ => ?_⟩
  refine ⟨(fun h => nomatch h), fun _ => ?_⟩
  refine ⟨by omega, _, hfget now (by omega) (by omega), ?_⟩
  refine ⟨_, rfl, _, den35 (f now) X, ?_⟩
  refine ⟨fun h => absurd (show (!(inR (f now) X.lo X.hi)) = true from h) (by rw [hins]; decide), fun _ => ?_⟩
  refine ⟨fun h => absurd (of_decide_eq_true h) (by omega), fun _ => ?_⟩
  refine ⟨fun h => absurd (of_decide_eq_true h) (by omega), fun _ => ?_⟩
  refine ⟨[2, 7, 12, 14], 1, [], fun σ => ∃ (i : Nat) (t : Int), t = (now : Int) + i ∧ t ≤ 61 ∧ σ = ⟨[(2, .loc 0 0), (7, .list 1 (((List.range 61).map f).map encI)), (12, .int .i64 n), (14, .int .i64 t)], [.flat false s.enc], .non⟩,
    fun σ => (1000 - slotI 14 σ).toNat, rfl, ⟨rfl, rfl⟩, ⟨0, now, by omega, by omega, rfl⟩, ?_⟩
  rintro σ ⟨i, t, ht, ht2, rfl⟩
  refine ⟨fun h1 => ?_, fun h1 => ?_⟩
  · have h1 : t ≤ n := of_decide_eq_true h1
    have h3 := hule i (by omega) (by omega)
    have h4 := inB_iff.1 (honf i (by omega))
    have e : now + i = t.toNat := by omega
    rw [e] at h4
    refine Or.inl ⟨by kernel_rfl, ?_⟩
    refine ⟨by omega, _, hfget t (by omega) (by omega), ?_⟩
    refine ⟨fun h => absurd (of_decide_eq_true h) (by omega), fun _ => ?_⟩
    refine ⟨t + 1, wrap64 (by omega) (by omega), ?_⟩
    exact ⟨⟨rfl, rfl⟩, ⟨i + 1, t + 1, by omega, by omega, rfl⟩, by show (1000 - (t + 1)).toNat < (1000 - t).toNat; omega⟩
  · exact ⟨_, rfl, _, den21, rfl⟩

end Go.Proofs.Gas
