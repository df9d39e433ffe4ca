/- The reference's Lies: the law of it; The reference's Lies and Later; The reference's Later. No condition. -/
import Derived.Test.YtjjolkfcahalkaaPackTD

namespace Go.Proofs.Tide
open Go.V Go.Proofs

/-- The box of one pull at one slope and one draft. -/
def lineB (b : Be) (p : Pu) (slope draft : Int) : Bx := ⟨⟨slope, slope⟩, ⟨draft, draft⟩, (tideAt b p).height, (tideAt b p).wind⟩
/-- Where she lies at one slope and one draft. -/
def lineR (b : Be) (s : Sh) (run : Pu) (pulls : List Pu) (slope draft : Int) : Sp :=
  pulls.foldl (fun r p => maxS r (reachR s.sink (lineB b p slope draft) p.ballast b.bite)) (reachR s.sink (lineB b run slope draft) run.ballast 0)

theorem lineR_snoc (b : Be) (s : Sh) (run : Pu) (pulls : List Pu) (p : Pu) (slope draft : Int) : lineR b s run (pulls ++ [p]) slope draft = maxS (lineR b s run pulls slope draft) (reachR s.sink (lineB b p slope draft) p.ballast b.bite) := by
  unfold lineR; rw [List.foldl_append]; rfl

def scale (slope : Int) (o : Sp) : Sp := ⟨1000 * o.lo / slope, 1000 * o.hi / slope⟩
def overD (b : Be) (s : Sh) (p : Pu) (draft bite : Int) : Sp :=
  ⟨(tideAt b p).height.lo + (tideAt b p).wind.lo - draft + (bite - s.sink * p.ballast), (tideAt b p).height.hi + (tideAt b p).wind.hi - draft + (bite - s.sink * p.ballast)⟩

theorem reach_line (b : Be) (s : Sh) (p : Pu) (slope draft bite : Int) : reachR s.sink (lineB b p slope draft) p.ballast bite = scale slope (overD b s p draft bite) := by
  have e1 : (tideAt b p).height.lo + (tideAt b p).wind.lo + bite - draft - s.sink * p.ballast = (overD b s p draft bite).lo := by simp only [overD]; omega
  have e2 : (tideAt b p).height.hi + (tideAt b p).wind.hi + bite - draft - s.sink * p.ballast = (overD b s p draft bite).hi := by simp only [overD]; omega
  simp only [reachR, lineB, atR, scale, Int.min_self, Int.max_self, e1, e2]

theorem div_max {a c d : Int} (hd : 0 < d) : max (1000 * a / d) (1000 * c / d) = 1000 * max a c / d := by
  rcases Int.le_total a c with h | h
  · have := Int.ediv_le_ediv hd (show 1000 * a ≤ 1000 * c by omega)
    rw [Int.max_eq_right h, Int.max_eq_right this]
  · have := Int.ediv_le_ediv hd (show 1000 * c ≤ 1000 * a by omega)
    rw [Int.max_eq_left h, Int.max_eq_left this]

theorem scale_max {slope : Int} (h : 0 < slope) (o p : Sp) : maxS (scale slope o) (scale slope p) = scale slope (maxS o p) := by
  simp only [maxS, scale, div_max h]

def topD (b : Be) (s : Sh) (run : Pu) (pulls : List Pu) (draft : Int) : Sp := pulls.foldl (fun o p => maxS o (overD b s p draft b.bite)) (overD b s run draft 0)

theorem line_eq (b : Be) (s : Sh) (run : Pu) {slope : Int} (h : 0 < slope) (draft : Int) : ∀ (pulls : List Pu), lineR b s run pulls slope draft = scale slope (topD b s run pulls draft) := by
  intro pulls
  unfold lineR topD
  rw [reach_line]
  generalize overD b s run draft 0 = o
  induction pulls generalizing o with
  | nil => rfl
  | cons p r ih =>
    simp only [List.foldl_cons]
    rw [reach_line, scale_max h]
    exact ih _

theorem topD_shift (b : Be) (s : Sh) (run : Pu) (pulls : List Pu) (draft : Int) : topD b s run pulls draft = ⟨(topD b s run pulls 0).lo - draft, (topD b s run pulls 0).hi - draft⟩ := by
  have e : ∀ (o : Sp) (l h : Int), o.lo = l → o.hi = h → o = ⟨l, h⟩ := by intro o l h h1 h2; cases o; subst h1 h2; rfl
  have main : ∀ (pulls : List Pu) (o p : Sp), o = ⟨p.lo - draft, p.hi - draft⟩ → pulls.foldl (fun o p => maxS o (overD b s p draft b.bite)) o = ⟨(pulls.foldl (fun o p => maxS o (overD b s p 0 b.bite)) p).lo - draft, (pulls.foldl (fun o p => maxS o (overD b s p 0 b.bite)) p).hi - draft⟩ := by
    intro pulls
    induction pulls with
    | nil => intro o p h; exact h
    | cons q r ih =>
      intro o p h
      simp only [List.foldl_cons]
      refine ih _ _ ?_
      subst h
      refine e _ _ _ ?_ ?_
      · simp only [maxS, overD]; omega
      · simp only [maxS, overD]; omega
  refine main pulls _ _ (e _ _ _ ?_ ?_)
  · simp only [overD]; omega
  · simp only [overD]; omega

theorem topR_eq (b : Be) (s : Sh) (run : Pu) (pulls : List Pu) : topR b s run pulls = ⟨(topD b s run pulls 0).lo - s.draft.hi, (topD b s run pulls 0).hi - s.draft.lo⟩ := by
  have e : ∀ (o : Sp) (l h : Int), o.lo = l → o.hi = h → o = ⟨l, h⟩ := by intro o l h h1 h2; cases o; subst h1 h2; rfl
  have main : ∀ (pulls : List Pu) (o p : Sp), o = ⟨p.lo - s.draft.hi, p.hi - s.draft.lo⟩ → pulls.foldl (fun o p => maxS o (overR b s p b.bite)) o = ⟨(pulls.foldl (fun o p => maxS o (overD b s p 0 b.bite)) p).lo - s.draft.hi, (pulls.foldl (fun o p => maxS o (overD b s p 0 b.bite)) p).hi - s.draft.lo⟩ := by
    intro pulls
    induction pulls with
    | nil => intro o p h; exact h
    | cons q r ih =>
      intro o p h
      simp only [List.foldl_cons]
      refine ih _ _ ?_
      subst h
      refine e _ _ _ ?_ ?_
      · simp only [maxS, overD, overR]; omega
      · simp only [maxS, overD, overR]; omega
  refine main pulls _ _ (e _ _ _ ?_ ?_)
  · simp only [overD, overR]; omega
  · simp only [overD, overR]; omega

def widS (s t : Sp) : Sp := ⟨min s.lo t.lo, max s.hi t.hi⟩
def out1 (b : Be) (s : Sh) (run : Pu) (pulls : List Pu) : Sp := widS (lineR b s run pulls b.slope.lo s.draft.lo) (lineR b s run pulls b.slope.lo s.draft.lo)
def out2 (b : Be) (s : Sh) (run : Pu) (pulls : List Pu) : Sp := widS (out1 b s run pulls) (lineR b s run pulls b.slope.hi s.draft.lo)
def out3 (b : Be) (s : Sh) (run : Pu) (pulls : List Pu) : Sp := widS (out2 b s run pulls) (lineR b s run pulls b.slope.lo s.draft.hi)
def out4 (b : Be) (s : Sh) (run : Pu) (pulls : List Pu) : Sp := widS (out3 b s run pulls) (lineR b s run pulls b.slope.hi s.draft.hi)
/-- What is found of the first i slopes and drafts. -/
def outR (b : Be) (s : Sh) (run : Pu) (pulls : List Pu) : Nat → Sp
  | 0 => ⟨0, 0⟩
  | 1 => out1 b s run pulls
  | 2 => out2 b s run pulls
  | 3 => out3 b s run pulls
  | _ => out4 b s run pulls

theorem out_lies {b : Be} {s : Sh} (hok : Ok b s) (run : Pu) (pulls : List Pu) : outR b s run pulls 4 = liesR b s run pulls := by
  have h1 := hok.slope
  have h2 := hok.draft
  unfold Sp.In at h1 h2
  have p1 : 0 < b.slope.lo := by omega
  have p2 : 0 < b.slope.hi := by omega
  have e : outR b s run pulls 4 = widS (widS (widS (widS (lineR b s run pulls b.slope.lo s.draft.lo) (lineR b s run pulls b.slope.lo s.draft.lo)) (lineR b s run pulls b.slope.hi s.draft.lo)) (lineR b s run pulls b.slope.lo s.draft.hi)) (lineR b s run pulls b.slope.hi s.draft.hi) := rfl
  rw [e, line_eq b s run p1, line_eq b s run p2, line_eq b s run p1, line_eq b s run p2, topD_shift b s run pulls s.draft.lo, topD_shift b s run pulls s.draft.hi]
  unfold liesR
  rw [topR_eq]
  generalize (topD b s run pulls 0) = T
  simp only [widS, scale]
  have a1 := Int.ediv_le_ediv p1 (show 1000 * (T.lo - s.draft.hi) ≤ 1000 * (T.lo - s.draft.lo) by omega)
  have a2 := Int.ediv_le_ediv p2 (show 1000 * (T.lo - s.draft.hi) ≤ 1000 * (T.lo - s.draft.lo) by omega)
  have a3 := Int.ediv_le_ediv p1 (show 1000 * (T.hi - s.draft.hi) ≤ 1000 * (T.hi - s.draft.lo) by omega)
  have a4 := Int.ediv_le_ediv p2 (show 1000 * (T.hi - s.draft.hi) ≤ 1000 * (T.hi - s.draft.lo) by omega)
  congr 1
  · omega
  · omega

theorem line_small {b : Be} {s : Sh} (hok : Ok b s) {p : Pu} (hp : p.Ok b) {slope draft : Int} (h1 : slope = b.slope.lo ∨ slope = b.slope.hi) (h2 : draft = s.draft.lo ∨ draft = s.draft.hi) : (lineB b p slope draft).Small := by
  have a1 := hok.slope
  have a2 := hok.draft
  have a3 := hok.height _ hp.t1
  have a4 := hok.wind _ hp.t1
  unfold Sp.In at a1 a2 a3 a4
  constructor <;> simp only [lineB, tideAt_eq hp] <;> omega

theorem den59p (b : Be) (s : Sh) (p : Pu) (hp : p.Ok b) : DN 59 [.agg b.enc, .agg s.enc, .int .i64 p.tide] (.agg (boxOf b s (tideAt b p)).enc) := by
  have ht : p.tide = (p.tide.toNat : Int) := by have := hp.t0; omega
  have := den59 b s p.tide.toNat hp.t1
  rw [← ht, ← tideAt_eq hp] at this
  exact this

end Go.Proofs.Tide

namespace Go.Proofs.Tide
open Go.V Go.Proofs

set_option maxHeartbeats 8000000 in
theorem den31 (b : Be) (s : Sh) (run : Pu) (pulls : List Pu) (hl : b.tides.length < 9223372036854775808) (hp : pulls.length < 9223372036854775808) : DN 31 [.agg b.enc, .agg s.enc, .agg run.enc, pullsD pulls] (spanD (liesR2 b s run pulls)) := by
  refine mk Try.func31 Try.call31 rfl rfl ?_
  refine ⟨_, rfl, _, den69 b s run pulls hl hp, ?_⟩
  refine ⟨fun h1 => ?_, fun h1 => ?_⟩
  · have h1 : planE b s run pulls ≠ 0 := by simpa using h1
    show some (spanD (⟨0, 0⟩, planE b s run pulls)) = _
    unfold liesR2; rw [if_pos h1]
  have h1 : planE b s run pulls = 0 := by simpa using h1
  obtain ⟨hok, hrun, h6, hall⟩ := planE_zero h1
  have hfin : some (spanD (liesR b s run pulls, 0)) = some (spanD (liesR2 b s run pulls)) := by unfold liesR2; rw [if_neg (by omega)]
  have hwr := hok.weight hrun.n0 hrun.n1
  have hbite := hok.bite
  refine Or.inl ⟨by kernel_rfl, ?_⟩
  refine ⟨[3, 4, 5, 6, 8, 11, 12, 13, 14], 7, [], fun σ => ∃ i : Nat, i ≤ 4 ∧ σ = ⟨[(3, pullsD pulls), (4, .loc 0 0), (5, .loc 1 0), (6, .loc 2 0), (8, .loc 3 0), (11, .loc 4 0), (12, .sl 5 0 0 2), (13, .sl 6 0 0 2), (14, .int .i64 i)],
    [.flat false b.enc, .flat false s.enc, .flat false run.enc, .flat false [.int .i64 0, .int .i64 0], .flat false (outR b s run pulls i).enc, .rows false 0 1 [[.int .i64 b.slope.lo], [.int .i64 b.slope.hi]], .rows false 0 1 [[.int .i64 s.draft.lo], [.int .i64 s.draft.hi]]], .non⟩, fun σ => (4 - slotI 14 σ).toNat, rfl, ⟨rfl, rfl⟩, ⟨0, by omega, rfl⟩, ?_⟩
  rintro σ ⟨i, hi, rfl⟩
  refine ⟨fun h2 => ?_, fun h2 => ?_⟩
  · have h2 := of_decide_eq_true h2
    have hi' : i = 0 ∨ i = 1 ∨ i = 2 ∨ i = 3 := by omega
    rcases hi' with rfl | rfl | rfl | rfl
    · refine Or.inl ⟨by kernel_rfl, ?_⟩
      refine ⟨by decide, _, rfl, ?_⟩
      refine ⟨by decide, by decide, _, rfl, ?_⟩
      refine ⟨_, rfl, ?_⟩
      refine ⟨_, rfl, _, den65 b.slope.lo, ?_⟩
      refine ⟨by decide, _, rfl, ?_⟩
      refine ⟨by decide, by decide, _, rfl, ?_⟩
      refine ⟨_, rfl, ?_⟩
      refine ⟨_, rfl, _, den65 s.draft.lo, ?_⟩
      refine ⟨_, rfl, _, den59p b s run hrun, ?_⟩
      refine ⟨_, rfl, _, den58 s (lineB b run b.slope.lo s.draft.lo) (line_small hok hrun (.inl rfl) (.inl rfl)) run.ballast 0 (by decide) (by decide) hwr.1 hwr.2, ?_⟩
      refine ⟨[3, 4, 5, 6, 8, 11, 12, 13, 14, 15, 16, 17, 18, 19], 11, [], fun σ => ∃ (j : Nat) (y : Bx), j ≤ pulls.length ∧ σ = ⟨[(3, pullsD pulls), (4, .loc 0 0), (5, .loc 1 0), (6, .loc 2 0), (8, .loc 3 0), (11, .loc 4 0), (12, .sl 5 0 0 2), (13, .sl 6 0 0 2), (14, .int .i64 (0 : Nat)), (15, .loc 7 0), (16, .loc 8 0), (17, .loc 9 0), (18, .loc 10 0), (19, .int .i64 j)],
        [.flat false b.enc, .flat false s.enc, .flat false run.enc, .flat false [.int .i64 0, .int .i64 0], .flat false (outR b s run pulls 0).enc, .rows false 0 1 [[.int .i64 b.slope.lo], [.int .i64 b.slope.hi]], .rows false 0 1 [[.int .i64 s.draft.lo], [.int .i64 s.draft.hi]],
         .flat false [.int .i64 b.slope.lo, .int .i64 b.slope.lo], .flat false [.int .i64 s.draft.lo, .int .i64 s.draft.lo], .flat false y.enc, .flat false (lineR b s run (pulls.take j) b.slope.lo s.draft.lo).enc], .non⟩, fun σ => (1000 - slotI 19 σ).toNat, rfl, ⟨rfl, rfl⟩, ⟨0, boxOf b s (tideAt b run), Nat.zero_le _, rfl⟩, ?_⟩
      rintro σ ⟨j, y, hj, rfl⟩
      refine ⟨fun h3 => ?_, fun h3 => ?_⟩
      · have h3 := of_decide_eq_true h3
        rw [List.length_map] at h3
        have hj' : j < pulls.length := by omega
        have hrow : (pulls.map Pu.enc)[((j : Int)).toNat]? = some (pulls[j].enc) := by simp [hj']
        have hpj : pulls[j].Ok b := hall _ (List.getElem_mem _)
        have hwj := hok.weight hpj.n0 hpj.n1
        have htake : pulls.take (j + 1) = pulls.take j ++ [pulls[j]] := List.take_succ_eq_append_getElem hj'
        refine Or.inl ⟨by kernel_rfl, ?_⟩
        refine ⟨by omega, _, hrow, ?_⟩
        refine ⟨_, rfl, _, den59p b s pulls[j] hpj, ?_⟩
        refine Or.inl ⟨by kernel_rfl, ?_⟩
        refine ⟨by omega, _, hrow, ?_⟩
        refine ⟨_, rfl, _, den58 s (lineB b pulls[j] b.slope.lo s.draft.lo) (line_small hok hpj (.inl rfl) (.inl rfl)) pulls[j].ballast b.bite (by omega) (by omega) hwj.1 hwj.2, ?_⟩
        refine ⟨_, wrap64 (by omega) (by omega), ?_⟩
        refine ⟨⟨rfl, rfl⟩, ⟨j + 1, boxOf b s (tideAt b pulls[j]), hj', ?_⟩, ?_⟩
        · rw [htake, lineR_snoc]; rfl
        · show (1000 - ((j : Int) + 1)).toNat < (1000 - (j : Int)).toNat
          omega
      · have h3 := of_decide_eq_false h3
        rw [List.length_map] at h3
        have hjl : j = pulls.length := by omega
        subst hjl
        rw [List.take_length]
        refine ⟨fun _ => ?_, fun h4 => absurd (show true = false from h4) (by decide)⟩
        refine ⟨_, wrap64 (by omega) (by omega), ?_⟩
        refine ⟨⟨rfl, rfl⟩, ⟨1, by omega, rfl⟩, ?_⟩
        show (4 - (((0 : Nat) : Int) + 1)).toNat < (4 - ((0 : Nat) : Int)).toNat
        decide
    · refine Or.inl ⟨by kernel_rfl, ?_⟩
      refine ⟨by decide, _, rfl, ?_⟩
      refine ⟨by decide, by decide, _, rfl, ?_⟩
      refine ⟨_, rfl, ?_⟩
      refine ⟨_, rfl, _, den65 b.slope.hi, ?_⟩
      refine ⟨by decide, _, rfl, ?_⟩
      refine ⟨by decide, by decide, _, rfl, ?_⟩
      refine ⟨_, rfl, ?_⟩
      refine ⟨_, rfl, _, den65 s.draft.lo, ?_⟩
      refine ⟨_, rfl, _, den59p b s run hrun, ?_⟩
      refine ⟨_, rfl, _, den58 s (lineB b run b.slope.hi s.draft.lo) (line_small hok hrun (.inr rfl) (.inl rfl)) run.ballast 0 (by decide) (by decide) hwr.1 hwr.2, ?_⟩
      refine ⟨[3, 4, 5, 6, 8, 11, 12, 13, 14, 15, 16, 17, 18, 19], 11, [], fun σ => ∃ (j : Nat) (y : Bx), j ≤ pulls.length ∧ σ = ⟨[(3, pullsD pulls), (4, .loc 0 0), (5, .loc 1 0), (6, .loc 2 0), (8, .loc 3 0), (11, .loc 4 0), (12, .sl 5 0 0 2), (13, .sl 6 0 0 2), (14, .int .i64 (1 : Nat)), (15, .loc 7 0), (16, .loc 8 0), (17, .loc 9 0), (18, .loc 10 0), (19, .int .i64 j)],
        [.flat false b.enc, .flat false s.enc, .flat false run.enc, .flat false [.int .i64 0, .int .i64 0], .flat false (outR b s run pulls 1).enc, .rows false 0 1 [[.int .i64 b.slope.lo], [.int .i64 b.slope.hi]], .rows false 0 1 [[.int .i64 s.draft.lo], [.int .i64 s.draft.hi]],
         .flat false [.int .i64 b.slope.hi, .int .i64 b.slope.hi], .flat false [.int .i64 s.draft.lo, .int .i64 s.draft.lo], .flat false y.enc, .flat false (lineR b s run (pulls.take j) b.slope.hi s.draft.lo).enc], .non⟩, fun σ => (1000 - slotI 19 σ).toNat, rfl, ⟨rfl, rfl⟩, ⟨0, boxOf b s (tideAt b run), Nat.zero_le _, rfl⟩, ?_⟩
      rintro σ ⟨j, y, hj, rfl⟩
      refine ⟨fun h3 => ?_, fun h3 => ?_⟩
      · have h3 := of_decide_eq_true h3
        rw [List.length_map] at h3
        have hj' : j < pulls.length := by omega
        have hrow : (pulls.map Pu.enc)[((j : Int)).toNat]? = some (pulls[j].enc) := by simp [hj']
        have hpj : pulls[j].Ok b := hall _ (List.getElem_mem _)
        have hwj := hok.weight hpj.n0 hpj.n1
        have htake : pulls.take (j + 1) = pulls.take j ++ [pulls[j]] := List.take_succ_eq_append_getElem hj'
        refine Or.inl ⟨by kernel_rfl, ?_⟩
        refine ⟨by omega, _, hrow, ?_⟩
        refine ⟨_, rfl, _, den59p b s pulls[j] hpj, ?_⟩
        refine Or.inl ⟨by kernel_rfl, ?_⟩
        refine ⟨by omega, _, hrow, ?_⟩
        refine ⟨_, rfl, _, den58 s (lineB b pulls[j] b.slope.hi s.draft.lo) (line_small hok hpj (.inr rfl) (.inl rfl)) pulls[j].ballast b.bite (by omega) (by omega) hwj.1 hwj.2, ?_⟩
        refine ⟨_, wrap64 (by omega) (by omega), ?_⟩
        refine ⟨⟨rfl, rfl⟩, ⟨j + 1, boxOf b s (tideAt b pulls[j]), hj', ?_⟩, ?_⟩
        · rw [htake, lineR_snoc]; rfl
        · show (1000 - ((j : Int) + 1)).toNat < (1000 - (j : Int)).toNat
          omega
      · have h3 := of_decide_eq_false h3
        rw [List.length_map] at h3
        have hjl : j = pulls.length := by omega
        subst hjl
        rw [List.take_length]
        refine ⟨fun h4 => absurd (show false = true from h4) (by decide), fun _ => ?_⟩
        refine ⟨_, wrap64 (by omega) (by omega), ?_⟩
        refine ⟨⟨rfl, rfl⟩, ⟨2, by omega, rfl⟩, ?_⟩
        show (4 - (((1 : Nat) : Int) + 1)).toNat < (4 - ((1 : Nat) : Int)).toNat
        decide
    · refine Or.inl ⟨by kernel_rfl, ?_⟩
      refine ⟨by decide, _, rfl, ?_⟩
      refine ⟨by decide, by decide, _, rfl, ?_⟩
      refine ⟨_, rfl, ?_⟩
      refine ⟨_, rfl, _, den65 b.slope.lo, ?_⟩
      refine ⟨by decide, _, rfl, ?_⟩
      refine ⟨by decide, by decide, _, rfl, ?_⟩
      refine ⟨_, rfl, ?_⟩
      refine ⟨_, rfl, _, den65 s.draft.hi, ?_⟩
      refine ⟨_, rfl, _, den59p b s run hrun, ?_⟩
      refine ⟨_, rfl, _, den58 s (lineB b run b.slope.lo s.draft.hi) (line_small hok hrun (.inl rfl) (.inr rfl)) run.ballast 0 (by decide) (by decide) hwr.1 hwr.2, ?_⟩
      refine ⟨[3, 4, 5, 6, 8, 11, 12, 13, 14, 15, 16, 17, 18, 19], 11, [], fun σ => ∃ (j : Nat) (y : Bx), j ≤ pulls.length ∧ σ = ⟨[(3, pullsD pulls), (4, .loc 0 0), (5, .loc 1 0), (6, .loc 2 0), (8, .loc 3 0), (11, .loc 4 0), (12, .sl 5 0 0 2), (13, .sl 6 0 0 2), (14, .int .i64 (2 : Nat)), (15, .loc 7 0), (16, .loc 8 0), (17, .loc 9 0), (18, .loc 10 0), (19, .int .i64 j)],
        [.flat false b.enc, .flat false s.enc, .flat false run.enc, .flat false [.int .i64 0, .int .i64 0], .flat false (outR b s run pulls 2).enc, .rows false 0 1 [[.int .i64 b.slope.lo], [.int .i64 b.slope.hi]], .rows false 0 1 [[.int .i64 s.draft.lo], [.int .i64 s.draft.hi]],
         .flat false [.int .i64 b.slope.lo, .int .i64 b.slope.lo], .flat false [.int .i64 s.draft.hi, .int .i64 s.draft.hi], .flat false y.enc, .flat false (lineR b s run (pulls.take j) b.slope.lo s.draft.hi).enc], .non⟩, fun σ => (1000 - slotI 19 σ).toNat, rfl, ⟨rfl, rfl⟩, ⟨0, boxOf b s (tideAt b run), Nat.zero_le _, rfl⟩, ?_⟩
      rintro σ ⟨j, y, hj, rfl⟩
      refine ⟨fun h3 => ?_, fun h3 => ?_⟩
      · have h3 := of_decide_eq_true h3
        rw [List.length_map] at h3
        have hj' : j < pulls.length := by omega
        have hrow : (pulls.map Pu.enc)[((j : Int)).toNat]? = some (pulls[j].enc) := by simp [hj']
        have hpj : pulls[j].Ok b := hall _ (List.getElem_mem _)
        have hwj := hok.weight hpj.n0 hpj.n1
        have htake : pulls.take (j + 1) = pulls.take j ++ [pulls[j]] := List.take_succ_eq_append_getElem hj'
        refine Or.inl ⟨by kernel_rfl, ?_⟩
        refine ⟨by omega, _, hrow, ?_⟩
        refine ⟨_, rfl, _, den59p b s pulls[j] hpj, ?_⟩
        refine Or.inl ⟨by kernel_rfl, ?_⟩
        refine ⟨by omega, _, hrow, ?_⟩
        refine ⟨_, rfl, _, den58 s (lineB b pulls[j] b.slope.lo s.draft.hi) (line_small hok hpj (.inl rfl) (.inr rfl)) pulls[j].ballast b.bite (by omega) (by omega) hwj.1 hwj.2, ?_⟩
        refine ⟨_, wrap64 (by omega) (by omega), ?_⟩
        refine ⟨⟨rfl, rfl⟩, ⟨j + 1, boxOf b s (tideAt b pulls[j]), hj', ?_⟩, ?_⟩
        · rw [htake, lineR_snoc]; rfl
        · show (1000 - ((j : Int) + 1)).toNat < (1000 - (j : Int)).toNat
          omega
      · have h3 := of_decide_eq_false h3
        rw [List.length_map] at h3
        have hjl : j = pulls.length := by omega
        subst hjl
        rw [List.take_length]
        refine ⟨fun h4 => absurd (show false = true from h4) (by decide), fun _ => ?_⟩
        refine ⟨_, wrap64 (by omega) (by omega), ?_⟩
        refine ⟨⟨rfl, rfl⟩, ⟨3, by omega, rfl⟩, ?_⟩
        show (4 - (((2 : Nat) : Int) + 1)).toNat < (4 - ((2 : Nat) : Int)).toNat
        decide
    · refine Or.inl ⟨by kernel_rfl, ?_⟩
      refine ⟨by decide, _, rfl, ?_⟩
      refine ⟨by decide, by decide, _, rfl, ?_⟩
      refine ⟨_, rfl, ?_⟩
      refine ⟨_, rfl, _, den65 b.slope.hi, ?_⟩
      refine ⟨by decide, _, rfl, ?_⟩
      refine ⟨by decide, by decide, _, rfl, ?_⟩
      refine ⟨_, rfl, ?_⟩
      refine ⟨_, rfl, _, den65 s.draft.hi, ?_⟩
      refine ⟨_, rfl, _, den59p b s run hrun, ?_⟩
      refine ⟨_, rfl, _, den58 s (lineB b run b.slope.hi s.draft.hi) (line_small hok hrun (.inr rfl) (.inr rfl)) run.ballast 0 (by decide) (by decide) hwr.1 hwr.2, ?_⟩
      refine ⟨[3, 4, 5, 6, 8, 11, 12, 13, 14, 15, 16, 17, 18, 19], 11, [], fun σ => ∃ (j : Nat) (y : Bx), j ≤ pulls.length ∧ σ = ⟨[(3, pullsD pulls), (4, .loc 0 0), (5, .loc 1 0), (6, .loc 2 0), (8, .loc 3 0), (11, .loc 4 0), (12, .sl 5 0 0 2), (13, .sl 6 0 0 2), (14, .int .i64 (3 : Nat)), (15, .loc 7 0), (16, .loc 8 0), (17, .loc 9 0), (18, .loc 10 0), (19, .int .i64 j)],
        [.flat false b.enc, .flat false s.enc, .flat false run.enc, .flat false [.int .i64 0, .int .i64 0], .flat false (outR b s run pulls 3).enc, .rows false 0 1 [[.int .i64 b.slope.lo], [.int .i64 b.slope.hi]], .rows false 0 1 [[.int .i64 s.draft.lo], [.int .i64 s.draft.hi]],
         .flat false [.int .i64 b.slope.hi, .int .i64 b.slope.hi], .flat false [.int .i64 s.draft.hi, .int .i64 s.draft.hi], .flat false y.enc, .flat false (lineR b s run (pulls.take j) b.slope.hi s.draft.hi).enc], .non⟩, fun σ => (1000 - slotI 19 σ).toNat, rfl, ⟨rfl, rfl⟩, ⟨0, boxOf b s (tideAt b run), Nat.zero_le _, rfl⟩, ?_⟩
      rintro σ ⟨j, y, hj, rfl⟩
      refine ⟨fun h3 => ?_, fun h3 => ?_⟩
      · have h3 := of_decide_eq_true h3
        rw [List.length_map] at h3
        have hj' : j < pulls.length := by omega
        have hrow : (pulls.map Pu.enc)[((j : Int)).toNat]? = some (pulls[j].enc) := by simp [hj']
        have hpj : pulls[j].Ok b := hall _ (List.getElem_mem _)
        have hwj := hok.weight hpj.n0 hpj.n1
        have htake : pulls.take (j + 1) = pulls.take j ++ [pulls[j]] := List.take_succ_eq_append_getElem hj'
        refine Or.inl ⟨by kernel_rfl, ?_⟩
        refine ⟨by omega, _, hrow, ?_⟩
        refine ⟨_, rfl, _, den59p b s pulls[j] hpj, ?_⟩
        refine Or.inl ⟨by kernel_rfl, ?_⟩
        refine ⟨by omega, _, hrow, ?_⟩
        refine ⟨_, rfl, _, den58 s (lineB b pulls[j] b.slope.hi s.draft.hi) (line_small hok hpj (.inr rfl) (.inr rfl)) pulls[j].ballast b.bite (by omega) (by omega) hwj.1 hwj.2, ?_⟩
        refine ⟨_, wrap64 (by omega) (by omega), ?_⟩
        refine ⟨⟨rfl, rfl⟩, ⟨j + 1, boxOf b s (tideAt b pulls[j]), hj', ?_⟩, ?_⟩
        · rw [htake, lineR_snoc]; rfl
        · show (1000 - ((j : Int) + 1)).toNat < (1000 - (j : Int)).toNat
          omega
      · have h3 := of_decide_eq_false h3
        rw [List.length_map] at h3
        have hjl : j = pulls.length := by omega
        subst hjl
        rw [List.take_length]
        refine ⟨fun h4 => absurd (show false = true from h4) (by decide), fun _ => ?_⟩
        refine ⟨_, wrap64 (by omega) (by omega), ?_⟩
        refine ⟨⟨rfl, rfl⟩, ⟨4, by omega, rfl⟩, ?_⟩
        show (4 - (((3 : Nat) : Int) + 1)).toNat < (4 - ((3 : Nat) : Int)).toNat
        decide
  · have h2 := of_decide_eq_false h2
    have : i = 4 := by omega
    subst this
    rw [← hfin, ← out_lies hok run pulls]
    rfl

end Go.Proofs.Tide

namespace Go.Proofs.Tide
open Go.V Go.Proofs

theorem den33 (b : Be) (s : Sh) (run : Pu) (target : Int) (hl : b.tides.length < 9223372036854775808) : DN 33 [.agg b.enc, .agg s.enc, .agg run.enc, .int .i64 target] (pairD (laterR b s run target)) := by
  refine mk Try.func33 Try.call33 rfl rfl ?_
  have h69 : DN 69 [.agg b.enc, .agg s.enc, .agg run.enc, .list 0 []] (.int .i64 (planE b s run [])) :=
    (den69 b s run [] hl (by simp)).args (.tcons (.refl _) (.tcons (.refl _) (.tcons (.refl _) (.tcons (.nil _ _) .tnil))))
  have hpe : planE b s run [] = stepE b s run.tide run.ballast := by
    unfold planE pullsE
    by_cases h : stepE b s run.tide run.ballast = 0
    · rw [if_neg (by omega), if_neg (by simp), h]
    · rw [if_pos h]
  rw [hpe] at h69
  refine ⟨_, rfl, _, h69, ?_⟩
  refine ⟨fun h1 => ?_, fun h1 => ?_⟩
  · have h1 : stepE b s run.tide run.ballast ≠ 0 := by simpa using h1
    show some (pairD (0, stepE b s run.tide run.ballast)) = _
    unfold laterR; rw [if_pos h1]
  have h1 : stepE b s run.tide run.ballast = 0 := by simpa using h1
  obtain ⟨hok, a2, a3, a4, a5⟩ := stepE_zero h1
  have hrun : run.Ok b := ⟨a2, by omega, a4, a5⟩
  have hn12 := hok.n1
  have hfin : laterR b s run target = (match laterF b s run target (b.tides.length - (run.tide.toNat + 1)) (run.tide.toNat + 1) with | some i => ((i : Int), 0) | none => (0, 9)) := by
    unfold laterR; rw [if_neg (by omega)]; rfl
  refine ⟨run.tide + 1, wrap64 (by omega) (by omega), ?_⟩
  refine ⟨[3, 4, 5, 6, 11], 3, [], fun σ => ∃ i : Nat, run.tide + 1 ≤ i ∧ i ≤ b.tides.length ∧ laterF b s run target (b.tides.length - (run.tide.toNat + 1)) (run.tide.toNat + 1) = laterF b s run target (b.tides.length - i) i ∧ σ = ⟨[(3, .int .i64 target), (4, .loc 0 0), (5, .loc 1 0), (6, .loc 2 0), (11, .int .i64 i)],
    [.flat false b.enc, .flat false s.enc, .flat false run.enc], .non⟩, fun σ => (1000 - slotI 11 σ).toNat, rfl, ⟨rfl, rfl⟩, ⟨run.tide.toNat + 1, by omega, by omega, rfl, ?_⟩, ?_⟩
  · rw [show ((run.tide.toNat + 1 : Nat) : Int) = run.tide + 1 by omega]; rfl
  rintro σ ⟨i, hti, hi, hf, rfl⟩
  refine ⟨fun h2 => ?_, fun h2 => ?_⟩
  · have h2 := of_decide_eq_true h2
    rw [List.length_map] at h2
    have hi' : i < b.tides.length := by omega
    rw [laterF_step b s run target hi'] at hf
    have hpl : planE b s run [⟨i, 0⟩] = 0 := by
      unfold planE
      rw [if_neg (by omega), if_neg (by simp)]
      simp only [pullsE]
      have : errTB b i 0 = 0 := by unfold errTB; rw [if_neg (by omega), if_neg (by omega)]
      rw [if_neg (by omega), if_neg (by omega)]
    have hli : liesR2 b s run [⟨i, 0⟩] = (liesR b s run [⟨i, 0⟩], 0) := by unfold liesR2; rw [if_neg (by omega)]
    refine ⟨_, rfl, _, den31 b s run [⟨i, 0⟩] hl (by simp), ?_⟩
    rw [hli]
    refine ⟨fun h3 => ?_, fun h3 => ?_⟩
    · have h3 := of_decide_eq_true h3
      rw [if_pos h3] at hf
      show some (pairD ((i : Int), 0)) = _
      rw [hfin, hf]
    · have h3 := of_decide_eq_false h3
      rw [if_neg h3] at hf
      refine ⟨_, wrap64 (by omega) (by omega), ?_⟩
      refine ⟨⟨rfl, rfl⟩, ⟨i + 1, by omega, hi', hf, rfl⟩, ?_⟩
      show (1000 - ((i : Int) + 1)).toNat < (1000 - (i : Int)).toNat
      omega
  · have h2 := of_decide_eq_false h2
    rw [List.length_map] at h2
    have hil : i = b.tides.length := by omega
    subst hil
    show some (pairD (0, 9)) = _
    rw [hfin, hf, Nat.sub_self]; rfl

end Go.Proofs.Tide
