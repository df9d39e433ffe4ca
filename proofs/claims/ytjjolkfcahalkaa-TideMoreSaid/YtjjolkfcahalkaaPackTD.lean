/- Lies and Later; The examples' beach and ship, and Awake. No condition. -/
import Derived.Test.YtjjolkfcahalkaaPackTC

namespace Go.Proofs.Tide
open Go.V Go.Proofs

/-- The error of pulls; last: the tide of the one before. -/
def pullsE (b : Be) : Int → List Pu → Int
  | _, [] => 0
  | last, p :: r => if errTB b p.tide p.ballast ≠ 0 then errTB b p.tide p.ballast else if p.tide ≤ last then 2 else pullsE b p.tide r

def planE (b : Be) (s : Sh) (run : Pu) (pulls : List Pu) : Int :=
  if stepE b s run.tide run.ballast ≠ 0 then stepE b s run.tide run.ballast else if (pulls.length : Int) > 6 then 3 else pullsE b run.tide pulls

theorem pu_ok {b : Be} {p : Pu} (h : errTB b p.tide p.ballast = 0) : p.Ok b := by
  obtain ⟨h1, h2, h3, h4⟩ := errTB_zero h
  exact ⟨h1, by omega, h3, h4⟩

theorem pullsE_zero {b : Be} : ∀ {l : List Pu} {last : Int}, pullsE b last l = 0 → ∀ p ∈ l, p.Ok b
  | [], _, _, p, hp => by cases hp
  | q :: r, last, h, p, hp => by
    simp only [pullsE] at h
    split at h
    · rename_i h1; exact absurd h h1
    · rename_i h1
      split at h
      · exact absurd h (by decide)
      · rcases List.mem_cons.1 hp with rfl | hp
        · exact pu_ok (by omega)
        · exact pullsE_zero h p hp

theorem planE_zero {b : Be} {s : Sh} {run : Pu} {pulls : List Pu} (h : planE b s run pulls = 0) : Ok b s ∧ run.Ok b ∧ pulls.length ≤ 6 ∧ ∀ p ∈ pulls, p.Ok b := by
  unfold planE at h
  split at h
  · rename_i h1; exact absurd h h1
  · rename_i h1
    split at h
    · exact absurd h (by decide)
    · rename_i h2
      obtain ⟨a1, a2, a3, a4, a5⟩ := stepE_zero (by omega : stepE b s run.tide run.ballast = 0)
      exact ⟨a1, ⟨a2, by omega, a4, a5⟩, by omega, pullsE_zero h⟩

def liesR2 (b : Be) (s : Sh) (run : Pu) (pulls : List Pu) : Sp × Int := if planE b s run pulls ≠ 0 then (⟨0, 0⟩, planE b s run pulls) else (liesR b s run pulls, 0)
def spanD (x : Sp × Int) : D := .tup [.agg x.1.enc, .int .i64 x.2]

theorem den30 (b : Be) (s : Sh) (run : Pu) (pulls : List Pu) : DN 30 [.agg b.enc, .agg s.enc, .agg run.enc, pullsD pulls] (spanD (liesR2 b s run pulls)) := by
  refine mk Try.func30 Try.call30 rfl rfl ?_
  refine ⟨_, rfl, _, den52 b s run.tide run.ballast, ?_⟩
  have herr : ∀ e, e ≠ 0 → planE b s run pulls = e → some (spanD (⟨0, 0⟩, e)) = some (spanD (liesR2 b s run pulls)) := by
    intro e he h
    unfold liesR2; rw [h, if_pos he]
  refine ⟨fun h1 => ?_, fun h1 => ?_⟩
  · have h1 : (stepE b s run.tide run.ballast != 0) = true := h1
    have h1 : stepE b s run.tide run.ballast ≠ 0 := by simpa using h1
    exact herr (stepE b s run.tide run.ballast) h1 (by unfold planE; rw [if_pos h1])
  have h1 : (stepE b s run.tide run.ballast != 0) = false := h1
  have h1 : stepE b s run.tide run.ballast = 0 := by simpa using h1
  obtain ⟨hok, a2, a3, a4, a5⟩ := stepE_zero h1
  have hrun : run.Ok b := ⟨a2, by omega, a4, a5⟩
  refine ⟨fun h2 => ?_, fun h2 => ?_⟩
  · have h2 := of_decide_eq_true h2
    rw [List.length_map] at h2
    exact herr 3 (by decide) (by unfold planE; rw [if_neg (by omega), if_pos h2])
  have h2 := of_decide_eq_false h2
  rw [List.length_map] at h2
  have hplan : planE b s run pulls = pullsE b run.tide pulls := by unfold planE; rw [if_neg (by omega), if_neg h2]
  refine ⟨[3, 6, 8, 10, 12, 37, 38, 39], 5, [], fun σ => ∃ (i : Nat) (last : Int), i ≤ pulls.length ∧ pullsE b run.tide pulls = pullsE b last (pulls.drop i) ∧ σ = ⟨[(3, pullsD pulls), (6, .loc 2 0), (8, .loc 3 0), (10, .loc 4 0), (12, .int .i64 last), (37, pullsD pulls), (38, .int .i64 (pulls.map Pu.enc).length), (39, .int .i64 i)],
    [.flat false b.enc, .flat false s.enc, .flat false run.enc, .flat false [.int .i64 0, .int .i64 0], .flat false (b.enc ++ s.enc)], .non⟩, fun σ => (1000 - slotI 39 σ).toNat, rfl, ⟨rfl, rfl⟩, ⟨0, run.tide, Nat.zero_le _, rfl, rfl⟩, ?_⟩
  rintro σ ⟨i, last, hi, hf, rfl⟩
  refine ⟨fun h3 => ?_, fun h3 => ?_⟩
  · have h3 := of_decide_eq_true h3
    rw [List.length_map] at h3
    have hi' : i < pulls.length := by omega
    have hrow : (pulls.map Pu.enc)[((i : Int)).toNat]? = some (pulls[i].enc) := by simp [hi']
    rw [List.drop_eq_getElem_cons hi'] at hf
    simp only [pullsE] at hf
    refine ⟨by omega, _, hrow, ?_⟩
    refine ⟨_, rfl, _, den67 b s pulls[i].tide pulls[i].ballast, ?_⟩
    refine ⟨fun h4 => ?_, fun h4 => ?_⟩
    · have h4 : errTB b pulls[i].tide pulls[i].ballast ≠ 0 := by simpa using h4
      rw [if_pos h4] at hf
      exact herr _ h4 (hplan.trans hf)
    have h4 : errTB b pulls[i].tide pulls[i].ballast = 0 := by simpa using h4
    rw [if_neg (by omega)] at hf
    refine ⟨fun h5 => ?_, fun h5 => ?_⟩
    · have h5 := of_decide_eq_true h5
      rw [if_pos h5] at hf
      exact herr 2 (by decide) (hplan.trans hf)
    · have h5 := of_decide_eq_false h5
      rw [if_neg h5] at hf
      refine ⟨_, wrap64 (by omega) (by omega), ?_⟩
      refine ⟨⟨rfl, rfl⟩, ⟨i + 1, pulls[i].tide, hi', hf, rfl⟩, ?_⟩
      show (1000 - ((i : Int) + 1)).toNat < (1000 - (i : Int)).toNat
      omega
  · have h3 := of_decide_eq_false h3
    rw [List.length_map] at h3
    have hil : i = pulls.length := by omega
    subst hil
    rw [List.drop_length] at hf
    have h0 : planE b s run pulls = 0 := hplan.trans hf
    obtain ⟨_, _, h6, hall⟩ := planE_zero h0
    refine ⟨_, rfl, _, den68 b s hok run hrun pulls hall (by omega), ?_⟩
    show some (spanD (liesR b s run pulls, 0)) = _
    unfold liesR2; rw [h0, if_neg (by omega)]

/-- The first tide, of the k ones from the i-th on, on which she surely is pulled to target. -/
def laterF (b : Be) (s : Sh) (run : Pu) (target : Int) : Nat → Nat → Option Nat
  | 0, _ => none
  | k + 1, i => if (liesR b s run [⟨i, 0⟩]).lo ≥ target then some i else laterF b s run target k (i + 1)
def laterR (b : Be) (s : Sh) (run : Pu) (target : Int) : Int × Int :=
  if stepE b s run.tide run.ballast ≠ 0 then (0, stepE b s run.tide run.ballast) else match laterF b s run target (b.tides.length - (run.tide.toNat + 1)) (run.tide.toNat + 1) with
    | some i => (i, 0)
    | none => (0, 9)

theorem laterF_step (b : Be) (s : Sh) (run : Pu) (target : Int) {i : Nat} (hi : i < b.tides.length) : laterF b s run target (b.tides.length - i) i = if (liesR b s run [⟨i, 0⟩]).lo ≥ target then some i else laterF b s run target (b.tides.length - (i + 1)) (i + 1) := by
  rw [show b.tides.length - i = (b.tides.length - (i + 1)) + 1 by omega]; rfl

theorem later_ok {b : Be} {i : Nat} (hi : i < b.tides.length) : (⟨(i : Int), 0⟩ : Pu).Ok b := ⟨by simp only; omega, by simpa using hi, by simp only; omega, by simp only; omega⟩

theorem den32 (b : Be) (s : Sh) (run : Pu) (target : Int) : DN 32 [.agg b.enc, .agg s.enc, .agg run.enc, .int .i64 target] (pairD (laterR b s run target)) := by
  refine mk Try.func32 Try.call32 rfl rfl ?_
  refine ⟨_, rfl, _, den52 b s run.tide run.ballast, ?_⟩
  refine ⟨fun h1 => ?_, fun h1 => ?_⟩
  · have h1 : (stepE b s run.tide run.ballast != 0) = true := h1
    have h1 : stepE b s run.tide run.ballast ≠ 0 := by simpa using h1
    show some (pairD (0, stepE b s run.tide run.ballast)) = _
    unfold laterR; rw [if_pos h1]
  have h1 : (stepE b s run.tide run.ballast != 0) = false := h1
  have h1 : stepE b s run.tide run.ballast = 0 := by simpa using h1
  obtain ⟨hok, a2, a3, a4, a5⟩ := stepE_zero h1
  have hrun : run.Ok b := ⟨a2, by omega, a4, a5⟩
  have hn12 := hok.n1
  have hfin : laterR b s run target = (match laterF b s run target (b.tides.length - (run.tide.toNat + 1)) (run.tide.toNat + 1) with | some i => ((i : Int), 0) | none => (0, 9)) := by
    unfold laterR; rw [if_neg (by omega)]
  refine ⟨run.tide + 1, wrap64 (by omega) (by omega), ?_⟩
  refine ⟨[3, 6, 10, 12], 4, [], fun σ => ∃ i : Nat, i ≤ b.tides.length ∧ laterF b s run target (b.tides.length - (run.tide.toNat + 1)) (run.tide.toNat + 1) = laterF b s run target (b.tides.length - i) i ∧ σ = ⟨[(3, .int .i64 target), (6, .loc 2 0), (10, .loc 3 0), (12, .int .i64 i)],
    [.flat false b.enc, .flat false s.enc, .flat false run.enc, .flat false (b.enc ++ s.enc)], .non⟩, fun σ => (1000 - slotI 12 σ).toNat, rfl, ⟨rfl, rfl⟩, ⟨run.tide.toNat + 1, by omega, rfl, ?_⟩, ?_⟩
  · rw [show ((run.tide.toNat + 1 : Nat) : Int) = run.tide + 1 by omega]; rfl
  rintro σ ⟨i, hi, hf, rfl⟩
  refine ⟨fun h2 => ?_, fun h2 => ?_⟩
  · have h2 := of_decide_eq_true h2
    rw [List.length_map] at h2
    have hi' : i < b.tides.length := by omega
    rw [laterF_step b s run target hi'] at hf
    refine ⟨_, rfl, _, den68 b s hok run hrun [⟨i, 0⟩] (fun p hp => by rw [List.mem_singleton.1 hp]; exact later_ok hi') (by simp), ?_⟩
    refine ⟨fun h3 => ?_, fun h3 => ?_⟩
    · have h3 := of_decide_eq_true h3
      rw [if_pos h3] at hf
      show some (pairD ((i : Int), 0)) = _
      rw [hfin, hf]
    · have h3 := of_decide_eq_false h3
      rw [if_neg h3] at hf
      refine ⟨_, wrap64 (by omega) (by omega), ?_⟩
      refine ⟨⟨rfl, rfl⟩, ⟨i + 1, hi', hf, rfl⟩, ?_⟩
      show (1000 - ((i : Int) + 1)).toNat < (1000 - (i : Int)).toNat
      omega
  · have h2 := of_decide_eq_false h2
    rw [List.length_map] at h2
    have hil : i = b.tides.length := by omega
    subst hil
    show some (pairD (0, 9)) = _
    rw [hfin, hf, Nat.sub_self]; rfl

theorem den69 (b : Be) (s : Sh) (run : Pu) (pulls : List Pu) (hl : b.tides.length < 9223372036854775808) (hp : pulls.length < 9223372036854775808) : DN 69 [.agg b.enc, .agg s.enc, .agg run.enc, pullsD pulls] (.int .i64 (planE b s run pulls)) := by
  refine mk Try.func69 Try.call69 rfl rfl ?_
  refine ⟨_, rfl, _, den57 b s run.tide run.ballast hl, ?_⟩
  refine ⟨fun h1 => ?_, fun h1 => ?_⟩
  · have h1 : stepE b s run.tide run.ballast = 0 := by simpa using h1
    obtain ⟨hok, a2, a3, a4, a5⟩ := stepE_zero h1
    have hchk : (checkR b s).2.2 = 0 := by
      unfold stepE at h1
      split at h1
      · rename_i h; exact absurd h1 h
      · omega
    have hstep : ∀ t n, stepE b s t n = errTB b t n := fun t n => by unfold stepE; rw [if_neg (by omega)]
    refine ⟨fun h2 => ?_, fun h2 => ?_⟩
    · have h2 := of_decide_eq_true h2
      rw [List.length_map] at h2
      have hpl : planE b s run pulls = 3 := by unfold planE; rw [if_neg (by omega), if_pos h2]
      refine ⟨[3, 4, 5, 6, 9, 10, 11], 3, [], fun σ => σ = ⟨[(3, pullsD pulls), (4, .loc 0 0), (5, .loc 1 0), (6, .loc 2 0), (9, .int .i64 3), (10, .int .i64 run.tide), (11, .int .i64 0)], [.flat false b.enc, .flat false s.enc, .flat false run.enc], .non⟩, fun _ => 0, rfl, ⟨rfl, rfl⟩, rfl, ?_⟩
      rintro σ rfl
      refine ⟨fun h3 => ?_, fun h3 => ?_⟩
      · refine ⟨fun h4 => ?_, fun h4 => ?_⟩
        · exact absurd (show ((3 : Int) == 0) = true from h4) (by decide)
        · show some (D.int .i64 (3)) = some (D.int .i64 _)
          rw [hpl]
      · show some (D.int .i64 (3)) = some (D.int .i64 _)
        rw [hpl]

    have h2 := of_decide_eq_false h2
    rw [List.length_map] at h2
    have hpl : planE b s run pulls = pullsE b run.tide pulls := by unfold planE; rw [if_neg (by omega), if_neg h2]
    refine ⟨[3, 4, 5, 6, 9, 10, 11], 3, [], fun σ => ∃ (i : Nat) (e last : Int), i ≤ pulls.length ∧ (e ≠ 0 → planE b s run pulls = e) ∧ (e = 0 → planE b s run pulls = pullsE b last (pulls.drop i)) ∧ σ = ⟨[(3, pullsD pulls), (4, .loc 0 0), (5, .loc 1 0), (6, .loc 2 0), (9, .int .i64 e), (10, .int .i64 last), (11, .int .i64 i)], [.flat false b.enc, .flat false s.enc, .flat false run.enc], .non⟩, fun σ => (1000 - slotI 11 σ).toNat, rfl, ⟨rfl, rfl⟩, ⟨0, stepE b s run.tide run.ballast, run.tide, Nat.zero_le _, fun h => absurd h1 h, fun _ => hpl, rfl⟩, ?_⟩
    rintro σ ⟨i, e, last, hi, he1, he2, rfl⟩
    have leave : (e = 0 → i = pulls.length) → some (D.int .i64 e) = some (D.int .i64 (planE b s run pulls)) := by
      intro h
      by_cases he : e = 0
      · rw [he2 he, h he, List.drop_length, he]; rfl
      · rw [he1 he]
    refine ⟨fun h3 => ?_, fun h3 => ?_⟩
    · have h3 := of_decide_eq_true h3
      rw [List.length_map] at h3
      have hi' : i < pulls.length := by omega
      have hrow : (pulls.map Pu.enc)[((i : Int)).toNat]? = some (pulls[i].enc) := by simp [hi']
      refine ⟨fun h4 => ?_, fun h4 => ?_⟩
      · have h4 : e = 0 := by simpa using h4
        have hf := he2 h4
        rw [List.drop_eq_getElem_cons hi'] at hf
        simp only [pullsE] at hf
        refine Or.inl ⟨by kernel_rfl, ?_⟩
        refine ⟨by omega, _, hrow, ?_⟩
        refine ⟨by omega, _, hrow, ?_⟩
        refine ⟨_, rfl, _, den57 b s pulls[i].tide pulls[i].ballast hl, ?_⟩
        rw [hstep]
        refine ⟨fun h5 => ?_, fun h5 => ?_⟩
        · have h5 : errTB b pulls[i].tide pulls[i].ballast = 0 := by simpa using h5
          rw [if_neg (by omega)] at hf
          refine ⟨by omega, _, hrow, ?_⟩
          refine ⟨fun h6 => ?_, fun h6 => ?_⟩
          · have h6 := of_decide_eq_true h6
            rw [if_pos h6] at hf
            refine ⟨by omega, _, hrow, ?_⟩
            refine ⟨_, wrap64 (by omega) (by omega), ?_⟩
            refine ⟨⟨rfl, rfl⟩, ⟨i + 1, 2, pulls[i].tide, hi', fun _ => hf, fun h => absurd h (by decide), rfl⟩, ?_⟩
            show (1000 - ((i : Int) + 1)).toNat < (1000 - (i : Int)).toNat
            omega
          · have h6 := of_decide_eq_false h6
            rw [if_neg h6] at hf
            refine ⟨by omega, _, hrow, ?_⟩
            refine ⟨_, wrap64 (by omega) (by omega), ?_⟩
            refine ⟨⟨rfl, rfl⟩, ⟨i + 1, _, pulls[i].tide, hi', fun h => absurd h5 h, fun _ => hf, rfl⟩, ?_⟩
            show (1000 - ((i : Int) + 1)).toNat < (1000 - (i : Int)).toNat
            omega
        · have h5 : errTB b pulls[i].tide pulls[i].ballast ≠ 0 := by simpa using h5
          rw [if_pos h5] at hf
          refine ⟨by omega, _, hrow, ?_⟩
          refine ⟨_, wrap64 (by omega) (by omega), ?_⟩
          refine ⟨⟨rfl, rfl⟩, ⟨i + 1, _, pulls[i].tide, hi', fun _ => hf, fun h => absurd h h5, rfl⟩, ?_⟩
          show (1000 - ((i : Int) + 1)).toNat < (1000 - (i : Int)).toNat
          omega
      · have h4 : e ≠ 0 := by simpa using h4
        exact leave fun h => absurd h h4
    · have h3 := of_decide_eq_false h3
      rw [List.length_map] at h3
      exact leave fun _ => by omega
  · have h1 : stepE b s run.tide run.ballast ≠ 0 := by simpa using h1
    have hpl : planE b s run pulls = stepE b s run.tide run.ballast := by unfold planE; rw [if_pos h1]
    refine ⟨[3, 4, 5, 6, 9, 10, 11], 3, [], fun σ => σ = ⟨[(3, pullsD pulls), (4, .loc 0 0), (5, .loc 1 0), (6, .loc 2 0), (9, .int .i64 (stepE b s run.tide run.ballast)), (10, .int .i64 run.tide), (11, .int .i64 0)], [.flat false b.enc, .flat false s.enc, .flat false run.enc], .non⟩, fun _ => 0, rfl, ⟨rfl, rfl⟩, rfl, ?_⟩
    rintro σ rfl
    refine ⟨fun h3 => ?_, fun h3 => ?_⟩
    · refine ⟨fun h4 => ?_, fun h4 => ?_⟩
      · exact absurd (by simpa using h4 : stepE b s run.tide run.ballast = 0) h1
      · show some (D.int .i64 (stepE b s run.tide run.ballast)) = some (D.int .i64 _)
        rw [hpl]
    · show some (D.int .i64 (stepE b s run.tide run.ballast)) = some (D.int .i64 _)
      rw [hpl]

end Go.Proofs.Tide

namespace Go.Proofs.Tide
open Go.V Go.Proofs

def B0 : Be := ⟨⟨20, 25⟩, ⟨6000, 12000⟩, 50, [⟨3, ⟨500, 520⟩, ⟨-10, 20⟩⟩, ⟨17, ⟨560, 590⟩, ⟨-10, 20⟩⟩]⟩
def S0 : Sh := ⟨⟨300, 310⟩, 5⟩

theorem den36 (l h : Int) : DN 36 [.int .i64 l, .int .i64 h] (.agg [.int .i64 l, .int .i64 h]) := mk Try.func36 Try.call36 rfl rfl rfl

theorem den34 : DN 34 [] (.agg B0.enc) := by
  refine mk Try.func34 Try.call34 rfl rfl ?_
  refine ⟨_, rfl, _, den36 _ _, ?_⟩
  refine ⟨_, rfl, _, den36 _ _, ?_⟩
  refine ⟨_, rfl, _, den36 _ _, ?_⟩
  refine ⟨_, rfl, _, den36 _ _, ?_⟩
  refine ⟨_, rfl, _, den36 _ _, ?_⟩
  refine ⟨_, rfl, _, den36 _ _, ?_⟩
  rfl

theorem den35 : DN 35 [] (.agg S0.enc) := by
  refine mk Try.func35 Try.call35 rfl rfl ?_
  refine ⟨_, rfl, _, den36 _ _, ?_⟩
  rfl

theorem aw1 : DN 18 [.agg B0.enc, .agg S0.enc, .int .i64 0, .int .i64 4] (.tup [.agg [.int .i64 6400, .int .i64 11000], .int .i64 0]) := by
  have h := den18 B0 S0 0 4
  rw [show stopsR B0 S0 0 4 = (⟨6400, 11000⟩, 0) by kernel_rfl] at h
  exact h
theorem aw2 : DN 20 [.agg B0.enc, .agg S0.enc, .int .i64 14] (.tup [intsD [1], .int .i64 0]) := by
  have h := den20 B0 S0 14
  rw [show ashoreR B0 S0 14 = ([1], 0) by kernel_rfl] at h
  exact h
theorem aw3 : DN 24 [.agg B0.enc, .agg S0.enc, .int .i64 1] (pairD (14, 0)) := by
  have h := den24 B0 S0 1
  rw [show leastR2 B0 S0 1 = (14, 0) by kernel_rfl] at h
  exact h
theorem aw4 : DN 26 [.agg B0.enc, .agg S0.enc, .int .i64 4] (trip (1, 14, 0)) := by
  have h := den26 B0 S0 4
  rw [show firstR B0 S0 4 = (1, 14, 0) by kernel_rfl] at h
  exact h
theorem aw5 : DN 28 [.agg B0.enc, .agg S0.enc, .int .i64 0, .int .i64 7] (missD (⟨25, 306, 500, -10⟩, 5960, 0)) := by
  have h := den28 B0 S0 0 7
  rw [show missesR B0 S0 0 7 = (⟨25, 306, 500, -10⟩, 5960, 0) by kernel_rfl] at h
  exact h
theorem aw6 : DN 30 [.agg B0.enc, .agg S0.enc, .agg [.int .i64 0, .int .i64 0], .list 2 [[.int .i64 1, .int .i64 20]]] (spanD (⟨7600, 13000⟩, 0)) := by
  have h := den30 B0 S0 ⟨0, 0⟩ [⟨1, 20⟩]
  rw [show liesR2 B0 S0 ⟨0, 0⟩ [⟨1, 20⟩] = (⟨7600, 13000⟩, 0) by kernel_rfl] at h
  exact h
theorem aw7 : DN 32 [.agg B0.enc, .agg S0.enc, .agg [.int .i64 0, .int .i64 0], .int .i64 11600] (pairD (1, 0)) := by
  have h := den32 B0 S0 ⟨0, 0⟩ 11600
  rw [show laterR B0 S0 ⟨0, 0⟩ 11600 = (1, 0) by kernel_rfl] at h
  exact h
theorem aw8 : DN 32 [.agg B0.enc, .agg S0.enc, .agg [.int .i64 0, .int .i64 0], .int .i64 11601] (pairD (0, 9)) := by
  have h := den32 B0 S0 ⟨0, 0⟩ 11601
  rw [show laterR B0 S0 ⟨0, 0⟩ 11601 = (0, 9) by kernel_rfl] at h
  exact h

set_option maxHeartbeats 4000000 in
theorem den23 : DN 23 [] (.bool true) := by
  refine mk Try.func23 Try.call23 rfl rfl ?_
  refine ⟨_, rfl, _, den34, ?_⟩
  refine ⟨_, rfl, _, den35, ?_⟩
  refine ⟨_, rfl, _, aw1, ?_⟩
  refine ⟨_, rfl, _, den34, ?_⟩
  refine ⟨_, rfl, _, den35, ?_⟩
  refine ⟨_, rfl, _, aw2, ?_⟩
  refine ⟨_, rfl, _, den34, ?_⟩
  refine ⟨_, rfl, _, den35, ?_⟩
  refine ⟨_, rfl, _, aw3, ?_⟩
  refine ⟨_, rfl, _, den34, ?_⟩
  refine ⟨_, rfl, _, den35, ?_⟩
  refine ⟨_, rfl, _, aw4, ?_⟩
  refine ⟨_, rfl, _, den34, ?_⟩
  refine ⟨_, rfl, _, den35, ?_⟩
  refine ⟨_, rfl, _, aw5, ?_⟩
  refine ⟨_, rfl, _, den34, ?_⟩
  refine ⟨_, rfl, _, den35, ?_⟩
  refine ⟨_, rfl, _, aw6, ?_⟩
  refine ⟨_, rfl, _, den34, ?_⟩
  refine ⟨_, rfl, _, den35, ?_⟩
  refine ⟨_, rfl, _, aw7, ?_⟩
  refine ⟨_, rfl, _, den34, ?_⟩
  refine ⟨_, rfl, _, den35, ?_⟩
  refine ⟨_, rfl, _, aw8, ?_⟩
  refine Or.inl ⟨by kernel_rfl, ?_⟩
  refine ⟨fun _ => ?_, fun h => absurd (show true = false from h) (by decide)⟩
  refine ⟨fun _ => ?_, fun h => absurd (show true = false from h) (by decide)⟩
  refine ⟨fun _ => ?_, fun h => absurd (show true = false from h) (by decide)⟩
  refine ⟨fun _ => ?_, fun h => absurd (show true = false from h) (by decide)⟩
  refine ⟨fun _ => ?_, fun h => absurd (show true = false from h) (by decide)⟩
  refine ⟨fun _ => ?_, fun h => absurd (show true = false from h) (by decide)⟩
  refine ⟨fun _ => ?_, fun h => absurd (show true = false from h) (by decide)⟩
  refine ⟨fun _ => ?_, fun h => absurd (show true = false from h) (by decide)⟩
  refine ⟨_, rfl, _, den36 _ _, ?_⟩
  refine ⟨fun _ => ?_, fun h => absurd (show true = false from h) (by decide)⟩
  refine ⟨_, rfl, _, den22 [1] [1] (by decide), ?_⟩
  refine ⟨fun _ => ?_, fun h => absurd (show true = false from h) (by decide)⟩
  refine ⟨fun _ => ?_, fun h => absurd (show true = false from h) (by decide)⟩
  refine ⟨fun _ => ?_, fun h => absurd (show true = false from h) (by decide)⟩
  refine ⟨fun _ => ?_, fun h => absurd (show true = false from h) (by decide)⟩
  refine ⟨fun _ => ?_, fun h => absurd (show true = false from h) (by decide)⟩
  refine ⟨fun _ => ?_, fun h => absurd (show true = false from h) (by decide)⟩
  refine ⟨_, rfl, _, den36 _ _, ?_⟩
  refine ⟨fun _ => ?_, fun h => absurd (show true = false from h) (by decide)⟩
  rfl

end Go.Proofs.Tide
