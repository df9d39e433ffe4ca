/- Readings at the minutes of Fewest, the plain law. No condition. -/
import Derived.Test.YtekancfhpbbieaaPackHE
import Derived.Test.YtekancfhpbbieaaPackGT
import Derived.Test.YtekancfhpbbieaaPackGP
import Derived.Test.YtekancfhpbbieaaPackGM

namespace Go.Proofs.Gas
open Go.V Go.Proofs

theorem lv_sub_on {s : Space} (hv : s.Valid) (m : Seen) (a : Nat) : ∀ i : Nat, (s.lv m (a + i)).sub (s.on a (s.lv m a) i)
  | 0 => sub_refl _
  | i + 1 => by
    have ih := lv_sub_on hv m a i
    intro n hn
    rw [show a + (i + 1) = (a + i) + 1 from rfl, Space.lv, mem_both, Bool.and_eq_true] at hn
    have e : ((a + i : Nat) : Int) = (a : Int) + i := by omega
    rw [e] at hn
    exact later_sub (Space.le_refl s) ih (lv_lev hv m _) _ n hn.1

theorem untilOn_le {s : Space} {now : Nat} (x : Sp) {i : Nat} (hi : now + i ≤ 60) (h : ((now + i : Nat) : Int) ≤ s.untilOn now x) : (s.on now x i).hi ≤ s.limit := by
  have hb : ∀ (i : Nat) z, (s.onL now x)[i]? = some z → z.1 = (now : Int) + i := fun i z hz => by
    rw [onL_get] at hz
    split at hz
    · cases hz; rfl
    · cases hz
  have hg : (s.onL now x)[i]? = some ((now : Int) + i, s.on now x i) := by rw [onL_get, if_pos (by omega)]
  exact untilL_le s.limit (s.onL now x) now (-1) hb (by omega) i _ hg (by show (now : Int) + i ≤ _; unfold Space.untilOn at h; omega)

structure RdOK (s : Space) (f : Nat → Int) (tool shown : Int) (r : Rd) : Prop where
  tl : r.tool = tool
  mn : 0 ≤ r.minute ∧ r.minute ≤ 60
  le : r.shown ≤ shown
  lo : f r.minute.toNat - s.err tool ≤ r.shown
  hi : r.shown ≤ f r.minute.toNat + s.err tool

theorem rdok_good {s : Space} (hv : s.Valid) {f : Nat → Int} (hp : s.path f 60) {tool shown : Int} (ht : 0 ≤ tool ∧ tool < s.tools.length) {rs : List Rd} (hlen : rs.length ≤ 12) (hr : ∀ r ∈ rs, RdOK s f tool shown r) :
    s.good rs ∧ ∀ t : Nat, t ≤ 60 → s.agrees rs t (f t) = true := by
  refine ⟨⟨hv, hlen, fun r hm => ?_⟩, fun t ht => ?_⟩
  · obtain ⟨h1, h2, h3, h4, h5⟩ := hr r hm
    have hf := path_range hv hp r.minute.toNat (by omega)
    have he := hv.err tool
    exact readBad_ok.2 ⟨by rw [h1]; exact ht, h2, by omega, by omega⟩
  · unfold Space.agrees
    rw [List.all_eq_true]
    intro r hm
    obtain ⟨h1, h2, h3, h4, h5⟩ := hr r hm
    rw [fits_in]
    by_cases hc : (t : Int) = r.minute
    · rw [if_pos hc]
      have : r.minute.toNat = t := by omega
      rw [this] at h4 h5
      exact inB_iff.2 ⟨by simp only; rw [h1]; omega, by simp only; rw [h1]; omega⟩
    · rw [if_neg hc]

theorem fewest_law {s : Space} (hv : s.Valid) {f : Nat → Int} (hp : s.path f 60) {tool shown : Int} (ht : 0 ≤ tool ∧ tool < s.tools.length) {rs : List Rd} (hlen : rs.length ≤ 12) (hr : ∀ r ∈ rs, RdOK s f tool shown r)
    {t : Nat} (ht60 : t ≤ 60) (hc : ∃ r ∈ rs, r.minute ≤ t ∧ (t : Int) ≤ s.holdsE tool shown r.minute) :
    ∃ n, s.untilE rs t = (n, 0) ∧ (t : Int) ≤ n ∧ f t ≤ s.limit := by
  obtain ⟨hg, hag⟩ := rdok_good hv hp ht hlen hr
  have hin : ∀ t : Nat, t ≤ 60 → inB (f t) (s.lv (s.seen rs) t) = true := fun t ht => path_lv hv hg.ok hp (Nat.le_refl 60) hag t ht
  have hne : ∀ t : Nat, t ≤ 60 → ¬ s.lv (s.seen rs) t = none' := fun t ht e => by have := hin t ht; rw [e, inB_none] at this; cases this
  obtain ⟨r, hm, hc1, hc2⟩ := hc
  obtain ⟨h1, h2, h3, h4, h5⟩ := hr r hm
  obtain ⟨a, ha⟩ : ∃ a : Nat, r.minute = a := ⟨r.minute.toNat, by omega⟩
  rw [ha] at hc1 hc2 h2
  have ha60 : a ≤ 60 := by omega
  obtain ⟨i, rfl⟩ : ∃ i, t = a + i := ⟨t - a, by omega⟩
  have hl0 : ¬ s.level0 tool shown < 0 := fun h => by rw [holdsE_neg h] at hc2; omega
  rw [holdsE_on ha60 hl0] at hc2
  have hon := untilOn_le _ ht60 hc2
  have hpl := point_lev (a := s.level0 tool shown) ⟨by omega, by unfold Space.level0; omega⟩
  have hla := lv_lev hv (s.seen rs) a
  have hna := hne a ha60
  have hhi : (s.lv (s.seen rs) a).hi ≤ s.level0 tool shown := by
    rcases hla with h | h
    · exact absurd h hna
    · have h6 := lv_in s (s.seen rs) a (s.lv (s.seen rs) a).hi (inB_iff.2 ⟨h.2.1, Int.le_refl _⟩)
      rw [left_seen hg.ok _ _ (by omega)] at h6
      unfold Space.agrees at h6
      have h7 := List.all_eq_true.1 h6 r hm
      rw [fits_in, if_pos ha.symm] at h7
      have h8 := inB_iff.1 h7
      simp only [h1] at h8
      unfold Space.level0
      omega
  have hmono := on_hi_mono hv a hla hpl.1 hna hpl.2 hhi i
  have hsub := sub_bounds (lv_sub_on hv (s.seen rs) a i) (lv_lev hv (s.seen rs) (a + i)) (hne (a + i) ht60)
  have hlim : ¬ (s.lv (s.seen rs) (a + i)).hi > s.limit := by omega
  have hft := inB_iff.1 (hin (a + i) ht60)
  exact ⟨_, ((answers hg ht60).2 (hne (a + i) ht60)).2, (until_pos s ht60 hlim).1, by omega⟩

/-- The reading at the i-th of some minutes. -/
def rdF (s : Space) (f : Nat → Int) (tool : Int) (lower : List Int) (L : List Int) (i : Nat) : Rd :=
  ⟨(L[i]?).getD 0, tool, amongE ⟨f ((L[i]?).getD 0).toNat - s.err tool, f ((L[i]?).getD 0).toNat + s.err tool⟩ (turnE lower i)⟩
def rdsF (s : Space) (f : Nat → Int) (tool : Int) (lower : List Int) (L : List Int) (n : Nat) : List Rd := (List.range n).map (rdF s f tool lower L)

theorem rdF_ok {s : Space} (hv : s.Valid) {f : Nat → Int} {tool shown : Int} {lower : List Int} (hlw : inL lower 256) {L : List Int} (hL : ∀ m ∈ L, 0 ≤ m ∧ m ≤ 60) {i : Nat} (hi : i < L.length) (hs : (rdF s f tool lower L i).shown ≤ shown) :
    RdOK s f tool shown (rdF s f tool lower L i) := by
  have hm : (L[i]?).getD 0 = L[i] := by rw [List.getElem?_eq_getElem hi]; rfl
  have hmr := hL L[i] (List.getElem_mem hi)
  have he := hv.err tool
  have hw := turn_in hlw (by decide) (i : Int)
  have ham := among_in (x := ⟨f L[i].toNat - s.err tool, f L[i].toNat + s.err tool⟩) (by simp only; omega) hw.1
  unfold rdF at hs ⊢
  rw [hm] at hs ⊢
  exact ⟨rfl, hmr, hs, ham.1, ham.2⟩

end Go.Proofs.Gas
