/- Lies and Later; The reference's Lies: the law of it; The reference's Lies and Later; The reference's Later; The examples' beach and ship, and Awake. No condition. -/
import Derived.Test.YtdhdeopenednaaaGreatDoorPackXI

namespace Go.Proofs.Tide
open Go.V Go.Proofs Go.Proofs.Top

/-- The error of pulls; last: the tide of the one before. -/
def pullsE (b : Be) : Int → List Pu → Int
  | _, [] => 0
  | last, p :: r => if errTB b p.tide p.ballast ≠ 0 then errTB b p.tide p.ballast else if p.tide ≤ last then 2 else pullsE b p.tide r

def planE (b : Be) (s : Sh) (run : Pu) (pulls : List Pu) : Int :=
  if stepE b s run.tide run.ballast ≠ 0 then stepE b s run.tide run.ballast else if (pulls.length : Int) > 6 then 3 else pullsE b run.tide pulls

theorem pu_ok {b : Be} {p : Pu} (h : errTB b p.tide p.ballast = 0) : p.Ok b := by
  obtain ⟨h1, h2, h3, h4⟩ := errTB_zero h
  exact ⟨h1, by omega, h3, h4⟩

theorem pullsE_zero {b : Be} : ∀ {l : List Pu} {last : Int}, pullsE b last l = 0 → ∀ p ∈ l, p.Ok b
  | [], _, _, p, hp => by cases hp
  | q :: r, last, h, p, hp => by
    simp only [pullsE] at h
    split at h
    · rename_i h1; exact absurd h h1
    · rename_i h1
      split at h
      · exact absurd h (by decide)
      · rcases List.mem_cons.1 hp with rfl | hp
        · exact pu_ok (by omega)
        · exact pullsE_zero h p hp

theorem planE_zero {b : Be} {s : Sh} {run : Pu} {pulls : List Pu} (h : planE b s run pulls = 0) : Ok b s ∧ run.Ok b ∧ pulls.length ≤ 6 ∧ ∀ p ∈ pulls, p.Ok b := by
  unfold planE at h
  split at h
  · rename_i h1; exact absurd h h1
  · rename_i h1
    split at h
    · exact absurd h (by decide)
    · rename_i h2
      obtain ⟨a1, a2, a3, a4, a5⟩ := stepE_zero (by omega : stepE b s run.tide run.ballast = 0)
      exact ⟨a1, ⟨a2, by omega, a4, a5⟩, by omega, pullsE_zero h⟩

def liesR2 (b : Be) (s : Sh) (run : Pu) (pulls : List Pu) : Sp × Int := if planE b s run pulls ≠ 0 then (⟨0, 0⟩, planE b s run pulls) else (liesR b s run pulls, 0)
def spanD (x : Sp × Int) : D := .tup [.agg x.1.enc, .int .i64 x.2]

theorem den33 (b : Be) (s : Sh) (run : Pu) (pulls : List Pu) : DN 33 [.agg b.enc, .agg s.enc, .agg run.enc, pullsD pulls] (spanD (liesR2 b s run pulls)) := by
  refine mk Tryz.func33 Tryz.call33 rfl rfl ?_
  refine ⟨_, rfl, _, den47 b s run.tide run.ballast, ?_⟩
  have herr : ∀ e, e ≠ 0 → planE b s run pulls = e → some (spanD (⟨0, 0⟩, e)) = some (spanD (liesR2 b s run pulls)) := by
    intro e he h
    unfold liesR2; rw [h, if_pos he]
  refine ⟨fun h1 => ?_, fun h1 => ?_⟩
  · have h1 : (stepE b s run.tide run.ballast != 0) = true := h1
    have h1 : stepE b s run.tide run.ballast ≠ 0 := by simpa using h1
    exact herr (stepE b s run.tide run.ballast) h1 (by unfold planE; rw [if_pos h1])
  have h1 : (stepE b s run.tide run.ballast != 0) = false := h1
  have h1 : stepE b s run.tide run.ballast = 0 := by simpa using h1
  obtain ⟨hok, a2, a3, a4, a5⟩ := stepE_zero h1
  have hrun : run.Ok b := ⟨a2, by omega, a4, a5⟩
  refine ⟨fun h2 => ?_, fun h2 => ?_⟩
  · have h2 := of_decide_eq_true h2
    rw [List.length_map] at h2
    exact herr 3 (by decide) (by unfold planE; rw [if_neg (by omega), if_pos h2])
  have h2 := of_decide_eq_false h2
  rw [List.length_map] at h2
  have hplan : planE b s run pulls = pullsE b run.tide pulls := by unfold planE; rw [if_neg (by omega), if_neg h2]
  refine ⟨[3, 6, 8, 10, 12, 37, 38, 39], 5, [], fun σ => ∃ (i : Nat) (last : Int), i ≤ pulls.length ∧ pullsE b run.tide pulls = pullsE b last (pulls.drop i) ∧ σ = ⟨[(3, pullsD pulls), (6, .loc 2 0), (8, .loc 3 0), (10, .loc 4 0), (12, .int .i64 last), (37, pullsD pulls), (38, .int .i64 (pulls.map Pu.enc).length), (39, .int .i64 i)],
    [.flat false b.enc, .flat false s.enc, .flat false run.enc, .flat false [.int .i64 0, .int .i64 0], .flat false (b.enc ++ s.enc)], .non⟩, fun σ => (1000 - slotI 39 σ).toNat, rfl, ⟨rfl, rfl⟩, ⟨0, run.tide, Nat.zero_le _, rfl, rfl⟩, ?_⟩
  rintro σ ⟨i, last, hi, hf, rfl⟩
  refine ⟨fun h3 => ?_, fun h3 => ?_⟩
  · have h3 := of_decide_eq_true h3
    rw [List.length_map] at h3
    have hi' : i < pulls.length := by omega
    have hrow : (pulls.map Pu.enc)[((i : Int)).toNat]? = some (pulls[i].enc) := by simp [hi']
    rw [List.drop_eq_getElem_cons hi'] at hf
    simp only [pullsE] at hf
    refine ⟨by omega, _, hrow, ?_⟩
    refine ⟨_, rfl, _, den71 b s pulls[i].tide pulls[i].ballast, ?_⟩
    refine ⟨fun h4 => ?_, fun h4 => ?_⟩
    · have h4 : errTB b pulls[i].tide pulls[i].ballast ≠ 0 := by simpa using h4
      rw [if_pos h4] at hf
      exact herr _ h4 (hplan.trans hf)
    have h4 : errTB b pulls[i].tide pulls[i].ballast = 0 := by simpa using h4
    rw [if_neg (by omega)] at hf
    refine ⟨fun h5 => ?_, fun h5 => ?_⟩
    · have h5 := of_decide_eq_true h5
      rw [if_pos h5] at hf
      exact herr 2 (by decide) (hplan.trans hf)
    · have h5 := of_decide_eq_false h5
      rw [if_neg h5] at hf
      refine ⟨_, wrap64 (by omega) (by omega), ?_⟩
      refine ⟨⟨rfl, rfl⟩, ⟨i + 1, pulls[i].tide, hi', hf, rfl⟩, ?_⟩
      show (1000 - ((i : Int) + 1)).toNat < (1000 - (i : Int)).toNat
      omega
  · have h3 := of_decide_eq_false h3
    rw [List.length_map] at h3
    have hil : i = pulls.length := by omega
    subst hil
    rw [List.drop_length] at hf
    have h0 : planE b s run pulls = 0 := hplan.trans hf
    obtain ⟨_, _, h6, hall⟩ := planE_zero h0
    refine ⟨_, rfl, _, den72 b s hok run hrun pulls hall (by omega), ?_⟩
    show some (spanD (liesR b s run pulls, 0)) = _
    unfold liesR2; rw [h0, if_neg (by omega)]

/-- The first tide, of the k ones from the i-th on, on which she surely is pulled to target. -/
def laterF (b : Be) (s : Sh) (run : Pu) (target : Int) : Nat → Nat → Option Nat
  | 0, _ => none
  | k + 1, i => if (liesR b s run [⟨i, 0⟩]).lo ≥ target then some i else laterF b s run target k (i + 1)
def laterR (b : Be) (s : Sh) (run : Pu) (target : Int) : Int × Int :=
  if stepE b s run.tide run.ballast ≠ 0 then (0, stepE b s run.tide run.ballast) else match laterF b s run target (b.tides.length - (run.tide.toNat + 1)) (run.tide.toNat + 1) with
    | some i => (i, 0)
    | none => (0, 9)

theorem laterF_step (b : Be) (s : Sh) (run : Pu) (target : Int) {i : Nat} (hi : i < b.tides.length) : laterF b s run target (b.tides.length - i) i = if (liesR b s run [⟨i, 0⟩]).lo ≥ target then some i else laterF b s run target (b.tides.length - (i + 1)) (i + 1) := by
  rw [show b.tides.length - i = (b.tides.length - (i + 1)) + 1 by omega]; rfl

theorem later_ok {b : Be} {i : Nat} (hi : i < b.tides.length) : (⟨(i : Int), 0⟩ : Pu).Ok b := ⟨by simp only; omega, by simpa using hi, by simp only; omega, by simp only; omega⟩

theorem den34 (b : Be) (s : Sh) (run : Pu) (target : Int) : DN 34 [.agg b.enc, .agg s.enc, .agg run.enc, .int .i64 target] (pairD (laterR b s run target)) := by
  refine mk Tryz.func34 Tryz.call34 rfl rfl ?_
  refine ⟨_, rfl, _, den47 b s run.tide run.ballast, ?_⟩
  refine ⟨fun h1 => ?_, fun h1 => ?_⟩
  · have h1 : (stepE b s run.tide run.ballast != 0) = true := h1
    have h1 : stepE b s run.tide run.ballast ≠ 0 := by simpa using h1
    show some (pairD (0, stepE b s run.tide run.ballast)) = _
    unfold laterR; rw [if_pos h1]
  have h1 : (stepE b s run.tide run.ballast != 0) = false := h1
  have h1 : stepE b s run.tide run.ballast = 0 := by simpa using h1
  obtain ⟨hok, a2, a3, a4, a5⟩ := stepE_zero h1
  have hrun : run.Ok b := ⟨a2, by omega, a4, a5⟩
  have hn12 := hok.n1
  have hfin : laterR b s run target = (match laterF b s run target (b.tides.length - (run.tide.toNat + 1)) (run.tide.toNat + 1) with | some i => ((i : Int), 0) | none => (0, 9)) := by
    unfold laterR; rw [if_neg (by omega)]
  refine ⟨run.tide + 1, wrap64 (by omega) (by omega), ?_⟩
  refine ⟨[3, 6, 10, 12], 4, [], fun σ => ∃ i : Nat, i ≤ b.tides.length ∧ laterF b s run target (b.tides.length - (run.tide.toNat + 1)) (run.tide.toNat + 1) = laterF b s run target (b.tides.length - i) i ∧ σ = ⟨[(3, .int .i64 target), (6, .loc 2 0), (10, .loc 3 0), (12, .int .i64 i)],
    [.flat false b.enc, .flat false s.enc, .flat false run.enc, .flat false (b.enc ++ s.enc)], .non⟩, fun σ => (1000 - slotI 12 σ).toNat, rfl, ⟨rfl, rfl⟩, ⟨run.tide.toNat + 1, by omega, rfl, ?_⟩, ?_⟩
  · rw [show ((run.tide.toNat + 1 : Nat) : Int) = run.tide + 1 by omega]; rfl
  rintro σ ⟨i, hi, hf, rfl⟩
  refine ⟨fun h2 => ?_, fun h2 => ?_⟩
  · have h2 := of_decide_eq_true h2
    rw [List.length_map] at h2
    have hi' : i < b.tides.length := by omega
    rw [laterF_step b s run target hi'] at hf
    refine ⟨_, rfl, _, den72 b s hok run hrun [⟨i, 0⟩] (fun p hp => by rw [List.mem_singleton.1 hp]; exact later_ok hi') (by simp), ?_⟩
    refine ⟨fun h3 => ?_, fun h3 => ?_⟩
    · have h3 := of_decide_eq_true h3
      rw [if_pos h3] at hf
      show some (pairD ((i : Int), 0)) = _
      rw [hfin, hf]
    · have h3 := of_decide_eq_false h3
      rw [if_neg h3] at hf
      refine ⟨_, wrap64 (by omega) (by omega), ?_⟩
      refine ⟨⟨rfl, rfl⟩, ⟨i + 1, hi', hf, rfl⟩, ?_⟩
      show (1000 - ((i : Int) + 1)).toNat < (1000 - (i : Int)).toNat
      omega
  · have h2 := of_decide_eq_false h2
    rw [List.length_map] at h2
    have hil : i = b.tides.length := by omega
    subst hil
    show some (pairD (0, 9)) = _
    rw [hfin, hf, Nat.sub_self]; rfl

end Go.Proofs.Tide

namespace Go.Proofs.Tide
open Go.V Go.Proofs Go.Proofs.Top

/-- The box of one pull at one slope and one draft. -/
def lineB (b : Be) (p : Pu) (slope draft : Int) : Bx := ⟨⟨slope, slope⟩, ⟨draft, draft⟩, (tideAt b p).height, (tideAt b p).wind⟩
/-- Where she lies at one slope and one draft. -/
def lineR (b : Be) (s : Sh) (run : Pu) (pulls : List Pu) (slope draft : Int) : Sp :=
  pulls.foldl (fun r p => maxS r (reachR s.sink (lineB b p slope draft) p.ballast b.bite)) (reachR s.sink (lineB b run slope draft) run.ballast 0)

theorem lineR_snoc (b : Be) (s : Sh) (run : Pu) (pulls : List Pu) (p : Pu) (slope draft : Int) : lineR b s run (pulls ++ [p]) slope draft = maxS (lineR b s run pulls slope draft) (reachR s.sink (lineB b p slope draft) p.ballast b.bite) := by
  unfold lineR; rw [List.foldl_append]; rfl

def scale (slope : Int) (o : Sp) : Sp := ⟨1000 * o.lo / slope, 1000 * o.hi / slope⟩
def overD (b : Be) (s : Sh) (p : Pu) (draft bite : Int) : Sp :=
  ⟨(tideAt b p).height.lo + (tideAt b p).wind.lo - draft + (bite - s.sink * p.ballast), (tideAt b p).height.hi + (tideAt b p).wind.hi - draft + (bite - s.sink * p.ballast)⟩

theorem reach_line (b : Be) (s : Sh) (p : Pu) (slope draft bite : Int) : reachR s.sink (lineB b p slope draft) p.ballast bite = scale slope (overD b s p draft bite) := by
  have e1 : (tideAt b p).height.lo + (tideAt b p).wind.lo + bite - draft - s.sink * p.ballast = (overD b s p draft bite).lo := by simp only [overD]; omega
  have e2 : (tideAt b p).height.hi + (tideAt b p).wind.hi + bite - draft - s.sink * p.ballast = (overD b s p draft bite).hi := by simp only [overD]; omega
  simp only [reachR, lineB, atR, scale, Int.min_self, Int.max_self, e1, e2]

theorem div_max {a c d : Int} (hd : 0 < d) : max (1000 * a / d) (1000 * c / d) = 1000 * max a c / d := by
  rcases Int.le_total a c with h | h
  · have := Int.ediv_le_ediv hd (show 1000 * a ≤ 1000 * c by omega)
    rw [Int.max_eq_right h, Int.max_eq_right this]
  · have := Int.ediv_le_ediv hd (show 1000 * c ≤ 1000 * a by omega)
    rw [Int.max_eq_left h, Int.max_eq_left this]

theorem scale_max {slope : Int} (h : 0 < slope) (o p : Sp) : maxS (scale slope o) (scale slope p) = scale slope (maxS o p) := by
  simp only [maxS, scale, div_max h]

def topD (b : Be) (s : Sh) (run : Pu) (pulls : List Pu) (draft : Int) : Sp := pulls.foldl (fun o p => maxS o (overD b s p draft b.bite)) (overD b s run draft 0)

theorem line_eq (b : Be) (s : Sh) (run : Pu) {slope : Int} (h : 0 < slope) (draft : Int) : ∀ (pulls : List Pu), lineR b s run pulls slope draft = scale slope (topD b s run pulls draft) := by
  intro pulls
  unfold lineR topD
  rw [reach_line]
  generalize overD b s run draft 0 = o
  induction pulls generalizing o with
  | nil => rfl
  | cons p r ih =>
    simp only [List.foldl_cons]
    rw [reach_line, scale_max h]
    exact ih _

theorem topD_shift (b : Be) (s : Sh) (run : Pu) (pulls : List Pu) (draft : Int) : topD b s run pulls draft = ⟨(topD b s run pulls 0).lo - draft, (topD b s run pulls 0).hi - draft⟩ := by
  have e : ∀ (o : Sp) (l h : Int), o.lo = l → o.hi = h → o = ⟨l, h⟩ := by intro o l h h1 h2; cases o; subst h1 h2; rfl
  have main : ∀ (pulls : List Pu) (o p : Sp), o = ⟨p.lo - draft, p.hi - draft⟩ → pulls.foldl (fun o p => maxS o (overD b s p draft b.bite)) o = ⟨(pulls.foldl (fun o p => maxS o (overD b s p 0 b.bite)) p).lo - draft, (pulls.foldl (fun o p => maxS o (overD b s p 0 b.bite)) p).hi - draft⟩ := by
    intro pulls
    induction pulls with
    | nil => intro o p h; exact h
    | cons q r ih =>
      intro o p h
      simp only [List.foldl_cons]
      refine ih _ _ ?_
      subst h
      refine e _ _ _ ?_ ?_
      · simp only [maxS, overD]; omega
      · simp only [maxS, overD]; omega
  refine main pulls _ _ (e _ _ _ ?_ ?_)
  · simp only [overD]; omega
  · simp only [overD]; omega

theorem topR_eq (b : Be) (s : Sh) (run : Pu) (pulls : List Pu) : topR b s run pulls = ⟨(topD b s run pulls 0).lo - s.draft.hi, (topD b s run pulls 0).hi - s.draft.lo⟩ := by
  have e : ∀ (o : Sp) (l h : Int), o.lo = l → o.hi = h → o = ⟨l, h⟩ := by intro o l h h1 h2; cases o; subst h1 h2; rfl
  have main : ∀ (pulls : List Pu) (o p : Sp), o = ⟨p.lo - s.draft.hi, p.hi - s.draft.lo⟩ → pulls.foldl (fun o p => maxS o (overR b s p b.bite)) o = ⟨(pulls.foldl (fun o p => maxS o (overD b s p 0 b.bite)) p).lo - s.draft.hi, (pulls.foldl (fun o p => maxS o (overD b s p 0 b.bite)) p).hi - s.draft.lo⟩ := by
    intro pulls
    induction pulls with
    | nil => intro o p h; exact h
    | cons q r ih =>
      intro o p h
      simp only [List.foldl_cons]
      refine ih _ _ ?_
      subst h
      refine e _ _ _ ?_ ?_
      · simp only [maxS, overD, overR]; omega
      · simp only [maxS, overD, overR]; omega
  refine main pulls _ _ (e _ _ _ ?_ ?_)
  · simp only [overD, overR]; omega
  · simp only [overD, overR]; omega

def widS (s t : Sp) : Sp := ⟨min s.lo t.lo, max s.hi t.hi⟩
def out1 (b : Be) (s : Sh) (run : Pu) (pulls : List Pu) : Sp := widS (lineR b s run pulls b.slope.lo s.draft.lo) (lineR b s run pulls b.slope.lo s.draft.lo)
def out2 (b : Be) (s : Sh) (run : Pu) (pulls : List Pu) : Sp := widS (out1 b s run pulls) (lineR b s run pulls b.slope.hi s.draft.lo)
def out3 (b : Be) (s : Sh) (run : Pu) (pulls : List Pu) : Sp := widS (out2 b s run pulls) (lineR b s run pulls b.slope.lo s.draft.hi)
def out4 (b : Be) (s : Sh) (run : Pu) (pulls : List Pu) : Sp := widS (out3 b s run pulls) (lineR b s run pulls b.slope.hi s.draft.hi)
/-- What is found of the first i slopes and drafts. -/
def outR (b : Be) (s : Sh) (run : Pu) (pulls : List Pu) : Nat → Sp
  | 0 => ⟨0, 0⟩
  | 1 => out1 b s run pulls
  | 2 => out2 b s run pulls
  | 3 => out3 b s run pulls
  | _ => out4 b s run pulls

theorem out_lies {b : Be} {s : Sh} (hok : Ok b s) (run : Pu) (pulls : List Pu) : outR b s run pulls 4 = liesR b s run pulls := by
  have h1 := hok.slope
  have h2 := hok.draft
  unfold Sp.In at h1 h2
  have p1 : 0 < b.slope.lo := by omega
  have p2 : 0 < b.slope.hi := by omega
  have e : outR b s run pulls 4 = widS (widS (widS (widS (lineR b s run pulls b.slope.lo s.draft.lo) (lineR b s run pulls b.slope.lo s.draft.lo)) (lineR b s run pulls b.slope.hi s.draft.lo)) (lineR b s run pulls b.slope.lo s.draft.hi)) (lineR b s run pulls b.slope.hi s.draft.hi) := rfl
  rw [e, line_eq b s run p1, line_eq b s run p2, line_eq b s run p1, line_eq b s run p2, topD_shift b s run pulls s.draft.lo, topD_shift b s run pulls s.draft.hi]
  unfold liesR
  rw [topR_eq]
  generalize (topD b s run pulls 0) = T
  simp only [widS, scale]
  have a1 := Int.ediv_le_ediv p1 (show 1000 * (T.lo - s.draft.hi) ≤ 1000 * (T.lo - s.draft.lo) by omega)
  have a2 := Int.ediv_le_ediv p2 (show 1000 * (T.lo - s.draft.hi) ≤ 1000 * (T.lo - s.draft.lo) by omega)
  have a3 := Int.ediv_le_ediv p1 (show 1000 * (T.hi - s.draft.hi) ≤ 1000 * (T.hi - s.draft.lo) by omega)
  have a4 := Int.ediv_le_ediv p2 (show 1000 * (T.hi - s.draft.hi) ≤ 1000 * (T.hi - s.draft.lo) by omega)
  congr 1
  · omega
  · omega

theorem line_small {b : Be} {s : Sh} (hok : Ok b s) {p : Pu} (hp : p.Ok b) {slope draft : Int} (h1 : slope = b.slope.lo ∨ slope = b.slope.hi) (h2 : draft = s.draft.lo ∨ draft = s.draft.hi) : (lineB b p slope draft).Small := by
  have a1 := hok.slope
  have a2 := hok.draft
  have a3 := hok.height _ hp.t1
  have a4 := hok.wind _ hp.t1
  unfold Sp.In at a1 a2 a3 a4
  constructor <;> simp only [lineB, tideAt_eq hp] <;> omega

end Go.Proofs.Tide

namespace Go.Proofs.Tide
open Go.V Go.Proofs Go.Proofs.Top

end Go.Proofs.Tide

namespace Go.Proofs.Tide
open Go.V Go.Proofs Go.Proofs.Top

end Go.Proofs.Tide

namespace Go.Proofs.Tide
open Go.V Go.Proofs Go.Proofs.Top

def B0 : Be := ⟨⟨20, 25⟩, ⟨6000, 12000⟩, 50, [⟨3, ⟨500, 520⟩, ⟨-10, 20⟩⟩, ⟨17, ⟨560, 590⟩, ⟨-10, 20⟩⟩]⟩
def S0 : Sh := ⟨⟨300, 310⟩, 5⟩

theorem den35 (l h : Int) : DN 35 [.int .i64 l, .int .i64 h] (.agg [.int .i64 l, .int .i64 h]) := mk Tryz.func35 Tryz.call35 rfl rfl rfl

theorem den27 : DN 27 [] (.agg B0.enc) := by
  refine mk Tryz.func27 Tryz.call27 rfl rfl ?_
  refine ⟨_, rfl, _, den35 _ _, ?_⟩
  refine ⟨_, rfl, _, den35 _ _, ?_⟩
  refine ⟨_, rfl, _, den35 _ _, ?_⟩
  refine ⟨_, rfl, _, den35 _ _, ?_⟩
  refine ⟨_, rfl, _, den35 _ _, ?_⟩
  refine ⟨_, rfl, _, den35 _ _, ?_⟩
  rfl

theorem den28 : DN 28 [] (.agg S0.enc) := by
  refine mk Tryz.func28 Tryz.call28 rfl rfl ?_
  refine ⟨_, rfl, _, den35 _ _, ?_⟩
  rfl

theorem aw1 : DN 10 [.agg B0.enc, .agg S0.enc, .int .i64 0, .int .i64 4] (.tup [.agg [.int .i64 6400, .int .i64 11000], .int .i64 0]) := by
  have h := den10 B0 S0 0 4
  rw [show stopsR B0 S0 0 4 = (⟨6400, 11000⟩, 0) by kernel_rfl] at h
  exact h
theorem aw2 : DN 29 [.agg B0.enc, .agg S0.enc, .int .i64 14] (.tup [intsD [1], .int .i64 0]) := by
  have h := den29 B0 S0 14
  rw [show ashoreR B0 S0 14 = ([1], 0) by kernel_rfl] at h
  exact h
theorem aw3 : DN 30 [.agg B0.enc, .agg S0.enc, .int .i64 1] (pairD (14, 0)) := by
  have h := den30 B0 S0 1
  rw [show leastR2 B0 S0 1 = (14, 0) by kernel_rfl] at h
  exact h
theorem aw4 : DN 31 [.agg B0.enc, .agg S0.enc, .int .i64 4] (trip (1, 14, 0)) := by
  have h := den31 B0 S0 4
  rw [show firstR B0 S0 4 = (1, 14, 0) by kernel_rfl] at h
  exact h
theorem aw5 : DN 32 [.agg B0.enc, .agg S0.enc, .int .i64 0, .int .i64 7] (missD (⟨25, 306, 500, -10⟩, 5960, 0)) := by
  have h := den32 B0 S0 0 7
  rw [show missesR B0 S0 0 7 = (⟨25, 306, 500, -10⟩, 5960, 0) by kernel_rfl] at h
  exact h
theorem aw6 : DN 33 [.agg B0.enc, .agg S0.enc, .agg [.int .i64 0, .int .i64 0], .list 2 [[.int .i64 1, .int .i64 20]]] (spanD (⟨7600, 13000⟩, 0)) := by
  have h := den33 B0 S0 ⟨0, 0⟩ [⟨1, 20⟩]
  rw [show liesR2 B0 S0 ⟨0, 0⟩ [⟨1, 20⟩] = (⟨7600, 13000⟩, 0) by kernel_rfl] at h
  exact h
theorem aw7 : DN 34 [.agg B0.enc, .agg S0.enc, .agg [.int .i64 0, .int .i64 0], .int .i64 11600] (pairD (1, 0)) := by
  have h := den34 B0 S0 ⟨0, 0⟩ 11600
  rw [show laterR B0 S0 ⟨0, 0⟩ 11600 = (1, 0) by kernel_rfl] at h
  exact h
theorem aw8 : DN 34 [.agg B0.enc, .agg S0.enc, .agg [.int .i64 0, .int .i64 0], .int .i64 11601] (pairD (0, 9)) := by
  have h := den34 B0 S0 ⟨0, 0⟩ 11601
  rw [show laterR B0 S0 ⟨0, 0⟩ 11601 = (0, 9) by kernel_rfl] at h
  exact h

set_option maxHeartbeats 4000000 in
theorem den6 : DN 6 [] (.bool true) := by
  refine mk Tryz.func6 Tryz.call6 rfl rfl ?_
  refine ⟨_, rfl, _, den27, ?_⟩
  refine ⟨_, rfl, _, den28, ?_⟩
  refine ⟨_, rfl, _, aw1, ?_⟩
  refine ⟨_, rfl, _, den27, ?_⟩
  refine ⟨_, rfl, _, den28, ?_⟩
  refine ⟨_, rfl, _, aw2, ?_⟩
  refine ⟨_, rfl, _, den27, ?_⟩
  refine ⟨_, rfl, _, den28, ?_⟩
  refine ⟨_, rfl, _, aw3, ?_⟩
  refine ⟨_, rfl, _, den27, ?_⟩
  refine ⟨_, rfl, _, den28, ?_⟩
  refine ⟨_, rfl, _, aw4, ?_⟩
  refine ⟨_, rfl, _, den27, ?_⟩
  refine ⟨_, rfl, _, den28, ?_⟩
  refine ⟨_, rfl, _, aw5, ?_⟩
  refine ⟨_, rfl, _, den27, ?_⟩
  refine ⟨_, rfl, _, den28, ?_⟩
  refine ⟨_, rfl, _, aw6, ?_⟩
  refine ⟨_, rfl, _, den27, ?_⟩
  refine ⟨_, rfl, _, den28, ?_⟩
  refine ⟨_, rfl, _, aw7, ?_⟩
  refine ⟨_, rfl, _, den27, ?_⟩
  refine ⟨_, rfl, _, den28, ?_⟩
  refine ⟨_, rfl, _, aw8, ?_⟩
  refine Or.inl ⟨by kernel_rfl, ?_⟩
  refine ⟨fun _ => ?_, fun h => absurd (show true = false from h) (by decide)⟩
  refine ⟨fun _ => ?_, fun h => absurd (show true = false from h) (by decide)⟩
  refine ⟨fun _ => ?_, fun h => absurd (show true = false from h) (by decide)⟩
  refine ⟨fun _ => ?_, fun h => absurd (show true = false from h) (by decide)⟩
  refine ⟨fun _ => ?_, fun h => absurd (show true = false from h) (by decide)⟩
  refine ⟨fun _ => ?_, fun h => absurd (show true = false from h) (by decide)⟩
  refine ⟨fun _ => ?_, fun h => absurd (show true = false from h) (by decide)⟩
  refine ⟨fun _ => ?_, fun h => absurd (show true = false from h) (by decide)⟩
  refine ⟨_, rfl, _, den35 _ _, ?_⟩
  refine ⟨fun _ => ?_, fun h => absurd (show true = false from h) (by decide)⟩
  refine ⟨_, rfl, _, den36 [1] [1] (by decide), ?_⟩
  refine ⟨fun _ => ?_, fun h => absurd (show true = false from h) (by decide)⟩
  refine ⟨fun _ => ?_, fun h => absurd (show true = false from h) (by decide)⟩
  refine ⟨fun _ => ?_, fun h => absurd (show true = false from h) (by decide)⟩
  refine ⟨fun _ => ?_, fun h => absurd (show true = false from h) (by decide)⟩
  refine ⟨fun _ => ?_, fun h => absurd (show true = false from h) (by decide)⟩
  refine ⟨fun _ => ?_, fun h => absurd (show true = false from h) (by decide)⟩
  refine ⟨_, rfl, _, den35 _ _, ?_⟩
  refine ⟨fun _ => ?_, fun h => absurd (show true = false from h) (by decide)⟩
  rfl

end Go.Proofs.Tide
