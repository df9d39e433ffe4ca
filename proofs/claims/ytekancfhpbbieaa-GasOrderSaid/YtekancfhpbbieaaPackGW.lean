/- More readings, and the same ones: the plain law. No condition. -/
import Derived.Test.YtekancfhpbbieaaPackGQ

namespace Go.Proofs.Gas
open Go.V Go.Proofs

/-- With more readings levels lie in those without, and a torch need not be put out earlier. -/
theorem tight_more {s : Space} {l l' : List Rd} (h : s.good l) (h' : s.good l') (ha : ∀ t n, s.agrees l' t n = true → s.agrees l t n = true) {now : Nat} (hne : ¬ s.lv (s.seen l') now = none') :
    ¬ s.lv (s.seen l) now = none' ∧ (s.lv (s.seen l) now).lo ≤ (s.lv (s.seen l') now).lo ∧ (s.lv (s.seen l') now).hi ≤ (s.lv (s.seen l) now).hi ∧
    s.untilOn now (s.lv (s.seen l) now) ≤ s.untilOn now (s.lv (s.seen l') now) := by
  have hsub := lv_sub (Space.le_refl s) h.v now fun i _ => left_sub (t := (i : Int)) h'.ok h.ok (ha i)
  have hl := lv_lev h.v (s.seen l') now
  obtain ⟨h1, h2, h3⟩ := sub_bounds hsub hl hne
  refine ⟨h3, h1, h2, ?_⟩
  refine untilOn_mono fun i hi hle => ?_
  have hs := on_sub (Space.le_refl s) h.v now hsub hl i
  have := (sub_bounds hs (on_lev h.v now hl i) (on_ne h.v now hl hne i)).2.1
  omega

/-- Readings that say the same up to a minute. -/
theorem lv_same {s : Space} {l l' : List Rd} (h : s.good l) (h' : s.good l') {now : Nat} (ha : ∀ t : Nat, t ≤ now → ∀ n, s.agrees l t n = s.agrees l' t n) : s.lv (s.seen l) now = s.lv (s.seen l') now :=
  lv_congr now fun i hi => left_congr h.ok h'.ok (ha i hi)

theorem fits_other {s : Space} {t n : Int} {r : Rd} (h : ¬ t = r.minute) : s.fits t n r = true := by
  rw [fits_in, if_neg h]

end Go.Proofs.Gas
