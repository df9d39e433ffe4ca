/- A plan of a run and pulls by turns, as the laws make it; Where a ship lies in a truth; TidePulled: what the law returns; Narrower ranges, wider marks; TideNarrow: what the law returns. No condition. -/
import Derived.Test.YtjjolkfcahalkaaPackTJ
import Derived.Test.YtjjolkfcahalkaaPackTD

namespace Go.Proofs.Tide
open Go.V Go.Proofs

/-- The pulls of a plan: of the k ones from the n-th on, behind a tide. -/
def planF (b : Be) (xs : List Int) : Nat → Nat → Int → List Pu
  | 0, _, _ => []
  | k + 1, n, at_ => if at_ + 1 + turnR xs (2 * n + 2) % 3 ≥ b.tides.length then [] else ⟨at_ + 1 + turnR xs (2 * n + 2) % 3, turnR xs (2 * n + 3) % 41⟩ :: planF b xs k (n + 1) (at_ + 1 + turnR xs (2 * n + 2) % 3)
def runR (b : Be) (xs : List Int) : Pu := ⟨turnR xs 0 % b.tides.length, turnR xs 1 % 41⟩
def pullsR (b : Be) (xs : List Int) : List Pu := planF b xs 6 0 (runR b xs).tide

theorem planF_len (b : Be) (xs : List Int) : ∀ k n a, (planF b xs k n a).length ≤ k
  | 0, _, _ => Nat.le_refl _
  | k + 1, n, a => by
    simp only [planF]
    split
    · simp
    · have := planF_len b xs k (n + 1) (a + 1 + turnR xs (2 * n + 2) % 3)
      simp; omega

theorem planF_ok {b : Be} {xs : List Int} (h : ∀ x ∈ xs, 0 ≤ x ∧ x ≤ 65535) : ∀ k n a, 0 ≤ a → pullsE b a (planF b xs k n a) = 0
  | 0, _, _, _ => rfl
  | k + 1, n, a, ha => by
    have h1 := turnR_in h (2 * n + 2)
    have h2 := turnR_in h (2 * n + 3)
    simp only [planF]
    split
    · rfl
    · rename_i h3
      have he : errTB b (a + 1 + turnR xs (2 * n + 2) % 3) (turnR xs (2 * n + 3) % 41) = 0 := by
        unfold errTB
        rw [if_neg (by omega), if_neg (by omega)]
      simp only [pullsE]
      rw [if_neg (by rw [he]; decide), if_neg (by omega)]
      exact planF_ok h k (n + 1) _ (by omega)

theorem run_ok {b : Be} {s : Sh} (hok : Ok b s) {xs : List Int} (h : ∀ x ∈ xs, 0 ≤ x ∧ x ≤ 65535) : (runR b xs).Ok b := by
  have h1 := turnR_in h 0
  have h2 := turnR_in h 1
  have h3 := hok.n0
  have h4 := Int.emod_nonneg (turnR xs 0) (b := (b.tides.length : Int)) (by omega)
  have h5 := Int.emod_lt_of_pos (turnR xs 0) (b := (b.tides.length : Int)) (by omega)
  unfold runR
  exact ⟨h4, by simp only; omega, by simp only; omega, by simp only; omega⟩

theorem plan_ok {b : Be} {s : Sh} (hc : (checkR b s).2.2 = 0) {xs : List Int} (h : ∀ x ∈ xs, 0 ≤ x ∧ x ≤ 65535) : planE b s (runR b xs) (pullsR b xs) = 0 := by
  have hr := run_ok (ok_of hc) h
  have hst : stepE b s (runR b xs).tide (runR b xs).ballast = 0 := by
    have h1 := hr.t0
    have h2 := hr.t1
    have h3 := hr.n0
    have h4 := hr.n1
    unfold stepE errTB
    rw [if_neg (by omega), if_neg (by omega), if_neg (by omega)]
  have hl := planF_len b xs 6 0 (runR b xs).tide
  unfold planE
  rw [if_neg (by omega), if_neg (by unfold pullsR; omega)]
  exact planF_ok h 6 0 _ hr.t0

set_option maxHeartbeats 2000000 in
theorem den42 (b : Be) (s : Sh) (hok : Ok b s) (xs : List Int) (h : ∀ x ∈ xs, 0 ≤ x ∧ x ≤ 65535) (hl : xs.length ≤ 9223372036854775807) : DN 42 [.agg b.enc, u16s xs] (.tup [.agg (runR b xs).enc, pullsD (pullsR b xs)]) := by
  refine mkW Try.func42 Try.call42 rfl rfl ?_
  have hn0 := hok.n0
  have hn12 := hok.n1
  have hlen : ((b.tides.map Ti.enc).length : Int) = b.tides.length := by rw [List.length_map]
  have t0 := turnR_in h 0
  have t1 := turnR_in h 1
  have m0 : (turnR xs 0).tmod ((b.tides.map Ti.enc).length : Int) = (runR b xs).tide := by rw [hlen]; exact Int.tmod_eq_emod_of_nonneg t0.1
  have m1 : (turnR xs 1).tmod 41 = (runR b xs).ballast := Int.tmod_eq_emod_of_nonneg t1.1
  have hr := run_ok hok h
  have hrt : (runR b xs).tide.toNat < b.tides.length := hr.t1
  have hr0 := hr.t0
  refine Or.inl ⟨by kernel_rfl, ?_⟩
  refine ⟨_, rfl, _, den43 xs h hl 0 (by decide), ?_⟩
  refine ⟨by rw [hlen]; omega, _, m0, ?_⟩
  refine ⟨_, rfl, _, den43 xs h hl 1 (by decide), ?_⟩
  refine ⟨by decide, _, m1, ?_⟩
  refine ⟨[1, 2, 4, 5, 6, 7, 8, 9], 3, [(.slot 7, 2)], fun σ => ∃ (n g : Nat) (at_ : Int) (pre : List Pu), n ≤ 6 ∧ 0 ≤ at_ ∧ at_ < b.tides.length ∧ pre.length = n ∧ pullsR b xs = pre ++ planF b xs (6 - n) n at_ ∧
    σ = ⟨[(1, u16s xs), (2, .loc 0 0), (4, .loc 1 0), (5, .nils), (6, .loc 2 0), (7, .sl 3 g 0 (pre.map Pu.enc).length), (8, .int .i64 at_), (9, .int .i64 n)],
      [.flat false b.enc, .flat false [.int .i64 0, .int .i64 0], .flat false (runR b xs).enc, .rows false g 2 (pre.map Pu.enc)], .non⟩,
    fun σ => (6 - slotI 9 σ).toNat, by kernel_rfl, ⟨by kernel_rfl, by kernel_rfl⟩, ⟨0, 0, (runR b xs).tide, [], by omega, hr0, by omega, rfl, rfl, by kernel_rfl⟩, ?_⟩
  rintro σ ⟨n, g, at_, pre, hn, ha0, ha1, hpl, hpre, rfl⟩
  have fin : ∀ l, pullsR b xs = l → pullsR b xs = pre → ∃ d0, some (D.tup [.agg (runR b xs).enc, .list 2 (pre.map Pu.enc)]) = some d0 ∧ Wk d0 (.tup [.agg (runR b xs).enc, pullsD (pullsR b xs)]) := fun l _ e => ⟨_, rfl, by rw [e]; exact .refl _⟩
  have hres : pullsR b xs = pre → Wk (D.tup [.agg (runR b xs).enc, .list 2 (pre.map Pu.enc)]) (.tup [.agg (runR b xs).enc, pullsD (pullsR b xs)]) := fun e => by rw [e]; exact .refl _
  refine ⟨fun h1 => ?_, fun h1 => ?_⟩
  · have h1 := of_decide_eq_true h1
    have u0 := turnR_in h (2 * n + 2)
    have u1 := turnR_in h (2 * n + 3)
    have w0 : (turnR xs (2 * n + 2)).tmod 3 = turnR xs (2 * n + 2) % 3 := Int.tmod_eq_emod_of_nonneg u0.1
    have w1 : (turnR xs (2 * n + 3)).tmod 41 = turnR xs (2 * n + 3) % 41 := Int.tmod_eq_emod_of_nonneg u1.1
    rw [show 6 - n = (6 - (n + 1)) + 1 by omega] at hpre
    simp only [planF] at hpre
    refine ⟨_, wrap64 (n := at_ + 1) (by omega) (by omega), ?_⟩
    refine ⟨((2 * n : Nat) : Int), (wrap64 (n := 2 * (n : Int)) (by omega) (by omega)).trans (by omega), ?_⟩
    refine ⟨((2 * n + 2 : Nat) : Int), (wrap64 (n := ((2 * n : Nat) : Int) + 2) (by omega) (by omega)).trans (by omega), ?_⟩
    refine ⟨_, rfl, _, den43 xs h hl (2 * n + 2) (by omega), ?_⟩
    refine ⟨by decide, _, w0, ?_⟩
    refine ⟨_, wrap64 (n := at_ + 1 + turnR xs (2 * n + 2) % 3) (by omega) (by omega), ?_⟩
    refine ⟨fun h2 => ?_, fun h2 => ?_⟩
    · have h2 := of_decide_eq_true h2
      rw [hlen] at h2
      rw [if_pos h2, List.append_nil] at hpre
      refine ⟨_, reify_tup (mapO_cons rfl (mapO_cons (reify_sl rfl rfl) rfl)), ?_⟩
      exact hres hpre
    · have h2 := of_decide_eq_false h2
      rw [hlen] at h2
      rw [if_neg h2] at hpre
      refine ⟨((2 * n : Nat) : Int), (wrap64 (n := 2 * (n : Int)) (by omega) (by omega)).trans (by omega), ?_⟩
      refine ⟨((2 * n + 3 : Nat) : Int), (wrap64 (n := ((2 * n : Nat) : Int) + 3) (by omega) (by omega)).trans (by omega), ?_⟩
      refine ⟨_, rfl, _, den43 xs h hl (2 * n + 3) (by omega), ?_⟩
      refine ⟨by decide, _, w1, ?_⟩
      have hall : pre.map Pu.enc ++ [[D.int .i64 (at_ + 1 + turnR xs (2 * n + 2) % 3), D.int .i64 (turnR xs (2 * n + 3) % 41)]] = (pre ++ [(⟨at_ + 1 + turnR xs (2 * n + 2) % 3, turnR xs (2 * n + 3) % 41⟩ : Pu)]).map Pu.enc := by simp [Pu.enc]
      refine ⟨trivial, iff' (by rw [beq_self]; rfl) ⟨rfl, ?_, _, hall, ?_⟩⟩
      · rw [List.length_map]; show (pre.length + 1) * 16 ≤ mostBytes; unfold mostBytes; omega
      refine ⟨_, wrap64 (n := (n : Int) + 1) (by omega) (by omega), ?_⟩
      refine ⟨⟨by kernel_rfl, by kernel_rfl⟩, ⟨n + 1, g + 1, at_ + 1 + turnR xs (2 * n + 2) % 3, pre ++ [⟨at_ + 1 + turnR xs (2 * n + 2) % 3, turnR xs (2 * n + 3) % 41⟩], by omega, by omega, by omega, by simp [hpl], by rw [hpre]; simp, by kernel_rfl⟩, ?_⟩
      show (6 - ((n : Int) + 1)).toNat < (6 - (n : Int)).toNat
      omega
  · have h1 := of_decide_eq_false h1
    have hn6 : n = 6 := by omega
    subst hn6
    simp only [Nat.sub_self, planF, List.append_nil] at hpre
    refine ⟨_, reify_tup (mapO_cons rfl (mapO_cons (reify_sl rfl rfl) rfl)), ?_⟩
    exact hres hpre

end Go.Proofs.Tide

namespace Go.Proofs.Tide
open Go.V Go.Proofs

/-- The slope of the truth. -/
def slopeT (b : Be) (ys : List Int) : Int := amongR b.slope (turnR ys 0)
/-- The truth of a tide, with more water. -/
def trueT (b : Be) (s : Sh) (ys : List Int) (p : Pu) (bite : Int) : Tr := ⟨(truthR b s p.tide.toNat ys).slope, (truthR b s p.tide.toNat ys).draft, (truthR b s p.tide.toNat ys).height + bite, (truthR b s p.tide.toNat ys).wind⟩
def overT (b : Be) (s : Sh) (ys : List Int) (p : Pu) (bite : Int) : Int := (truthR b s p.tide.toNat ys).height + bite + (truthR b s p.tide.toNat ys).wind + 0 - (truthR b s p.tide.toNat ys).draft - s.sink * p.ballast
def stopT (b : Be) (s : Sh) (ys : List Int) (p : Pu) (bite : Int) : Int := atR s.sink (trueT b s ys p bite) p.ballast 0

theorem stopT_eq (b : Be) (s : Sh) (ys : List Int) (p : Pu) (bite : Int) : stopT b s ys p bite = 1000 * overT b s ys p bite / slopeT b ys := rfl

theorem overT_in {b : Be} {s : Sh} (hok : Ok b s) (ys : List Int) {p : Pu} (hp : p.Ok b) (bite : Int) : (overR b s p bite).lo ≤ overT b s ys p bite ∧ overT b s ys p bite ≤ (overR b s p bite).hi := by
  obtain ⟨_, h2, h3, h4⟩ := hok.truth_of p.tide.toNat hp.t1 ys
  simp only [boxOf] at h2 h3 h4
  unfold overT
  simp only [overR, tideAt_eq hp]
  omega

theorem slopeT_in {b : Be} {s : Sh} (hok : Ok b s) (ys : List Int) : b.slope.lo ≤ slopeT b ys ∧ slopeT b ys ≤ b.slope.hi := among_in hok.slope.2.1 _

theorem trueT_small {b : Be} {s : Sh} (hok : Ok b s) (ys : List Int) {p : Pu} (hp : p.Ok b) {bite : Int} (h0 : 0 ≤ bite) (h1 : bite ≤ 200) : (trueT b s ys p bite).Small := by
  have h := hok.of_small p.tide.toNat hp.t1 (hok.truth_of p.tide.toNat hp.t1 ys)
  obtain ⟨_, h2, h3, h4⟩ := hok.truth_of p.tide.toNat hp.t1 ys
  have s3 := hok.height _ hp.t1
  unfold Sp.In at s3
  simp only [boxOf] at h2 h3 h4
  obtain ⟨a1, a2, a3, a4, a5, a6, a7, a8⟩ := h
  unfold trueT
  constructor <;> simp only <;> omega

/-- Where she lies in the truth behind pulls. -/
def lieT (b : Be) (s : Sh) (ys : List Int) (run : Pu) (pulls : List Pu) : Int := pulls.foldl (fun o p => max o (stopT b s ys p b.bite)) (stopT b s ys run 0)

theorem lieT_snoc (b : Be) (s : Sh) (ys : List Int) (run : Pu) (pulls : List Pu) (p : Pu) : lieT b s ys run (pulls ++ [p]) = max (lieT b s ys run pulls) (stopT b s ys p b.bite) := by
  unfold lieT; rw [List.foldl_append]; rfl

theorem lieT_over {b : Be} {s : Sh} (hok : Ok b s) (ys : List Int) {run : Pu} (hr : run.Ok b) {pulls : List Pu} (hp : ∀ p ∈ pulls, p.Ok b) : ∀ n, n ≤ pulls.length →
    ∃ O, lieT b s ys run (pulls.take n) = 1000 * O / slopeT b ys ∧ (topR b s run (pulls.take n)).lo ≤ O ∧ O ≤ (topR b s run (pulls.take n)).hi
  | 0, _ => ⟨overT b s ys run 0, rfl, overT_in hok ys hr 0⟩
  | n + 1, hn => by
    have hn' : n < pulls.length := by omega
    obtain ⟨O, h1, h2, h3⟩ := lieT_over hok ys hr hp n (by omega)
    have hs := slopeT_in hok ys
    have hs1 := hok.slope.1
    rw [List.take_succ_eq_append_getElem hn', lieT_snoc, topR_snoc, h1, stopT_eq]
    obtain ⟨a1, a2⟩ := overT_in hok ys (hp _ (List.getElem_mem hn')) b.bite
    revert a1 a2
    generalize overT b s ys pulls[n] b.bite = o
    intro a1 a2
    refine ⟨max O o, ?_, ?_, ?_⟩
    · rcases Int.le_total O o with h | h
      · have := Int.ediv_le_ediv (a := 1000 * O) (b := 1000 * o) (c := slopeT b ys) (by omega) (by omega)
        rw [show max O o = o by omega]; omega
      · have := Int.ediv_le_ediv (a := 1000 * o) (b := 1000 * O) (c := slopeT b ys) (by omega) (by omega)
        rw [show max O o = O by omega]; omega
    · simp only [maxS]; omega
    · simp only [maxS]; omega

theorem lieT_in {b : Be} {s : Sh} (hok : Ok b s) (ys : List Int) {run : Pu} (hr : run.Ok b) {pulls : List Pu} (hp : ∀ p ∈ pulls, p.Ok b) : (liesR b s run pulls).lo ≤ lieT b s ys run pulls ∧ lieT b s ys run pulls ≤ (liesR b s run pulls).hi := by
  obtain ⟨O, h1, h2, h3⟩ := lieT_over hok ys hr hp pulls.length (Nat.le_refl _)
  rw [List.take_length] at h1 h2 h3
  have hs := slopeT_in hok ys
  have hs1 := hok.slope.1
  rw [h1]
  simp only [liesR]
  have e1 := (div_between (1000 * (topR b s run pulls).lo) (a := b.slope.lo) (m := slopeT b ys) (c := b.slope.hi) (by omega) hs.1 hs.2).1
  have e2 := (div_between (1000 * (topR b s run pulls).hi) (a := b.slope.lo) (m := slopeT b ys) (c := b.slope.hi) (by omega) hs.1 hs.2).2
  have e3 := Int.ediv_le_ediv (a := 1000 * (topR b s run pulls).lo) (b := 1000 * O) (c := slopeT b ys) (by omega) (by omega)
  have e4 := Int.ediv_le_ediv (a := 1000 * O) (b := 1000 * (topR b s run pulls).hi) (c := slopeT b ys) (by omega) (by omega)
  exact ⟨Int.le_trans e1 e3, Int.le_trans e4 e2⟩

theorem lies_of_top {b : Be} {s : Sh} {run run' : Pu} {pulls pulls' : List Pu} (hl : 0 < b.slope.lo) (hh : 0 < b.slope.hi) (h1 : (topR b s run pulls).lo ≤ (topR b s run' pulls').lo) (h2 : (topR b s run pulls).hi ≤ (topR b s run' pulls').hi) :
    (liesR b s run pulls).lo ≤ (liesR b s run' pulls').lo ∧ (liesR b s run pulls).hi ≤ (liesR b s run' pulls').hi := by
  simp only [liesR]
  have e1 := Int.ediv_le_ediv (a := 1000 * (topR b s run pulls).lo) (b := 1000 * (topR b s run' pulls').lo) hl (by omega)
  have e2 := Int.ediv_le_ediv (a := 1000 * (topR b s run pulls).lo) (b := 1000 * (topR b s run' pulls').lo) hh (by omega)
  have e3 := Int.ediv_le_ediv (a := 1000 * (topR b s run pulls).hi) (b := 1000 * (topR b s run' pulls').hi) hl (by omega)
  have e4 := Int.ediv_le_ediv (a := 1000 * (topR b s run pulls).hi) (b := 1000 * (topR b s run' pulls').hi) hh (by omega)
  omega

/-- Without the last pull she lies no farther up. -/
theorem lies_less {b : Be} {s : Sh} (hok : Ok b s) {run : Pu} {pulls : List Pu} (h0 : 0 < pulls.length) : (liesR b s run (pulls.take (pulls.length - 1))).lo ≤ (liesR b s run pulls).lo ∧ (liesR b s run (pulls.take (pulls.length - 1))).hi ≤ (liesR b s run pulls).hi := by
  have hs := hok.slope
  unfold Sp.In at hs
  have e : pulls = pulls.take (pulls.length - 1) ++ [pulls[pulls.length - 1]] := by
    have := List.take_succ_eq_append_getElem (l := pulls) (i := pulls.length - 1) (by omega)
    rw [show pulls.length - 1 + 1 = pulls.length by omega, List.take_length] at this
    exact this
  refine lies_of_top (by omega) (by omega) ?_ ?_
  · conv => rhs; rw [e, topR_snoc]
    simp only [maxS]; omega
  · conv => rhs; rw [e, topR_snoc]
    simp only [maxS]; omega

theorem pullsE_take {b : Be} : ∀ {l : List Pu} {last : Int} (n : Nat), pullsE b last l = 0 → pullsE b last (l.take n) = 0
  | [], _, n, _ => by simp [pullsE]
  | q :: r, last, 0, _ => rfl
  | q :: r, last, n + 1, h => by
    simp only [pullsE] at h
    simp only [List.take_succ_cons, pullsE]
    split at h
    · rename_i h1; exact absurd h h1
    · rename_i h1
      rw [if_neg h1]
      split at h
      · exact absurd h (by decide)
      · rename_i h2
        rw [if_neg h2]
        exact pullsE_take n h

theorem planE_take {b : Be} {s : Sh} {run : Pu} {pulls : List Pu} (n : Nat) (h : planE b s run pulls = 0) : planE b s run (pulls.take n) = 0 := by
  unfold planE at h ⊢
  split at h
  · rename_i h1; exact absurd h h1
  · rename_i h1
    rw [if_neg h1]
    split at h
    · exact absurd h (by decide)
    · rename_i h2
      rw [if_neg (by rw [List.length_take]; omega)]
      exact pullsE_take n h

theorem lies_ok {b : Be} {s : Sh} {run : Pu} {pulls : List Pu} (h : planE b s run pulls = 0) : liesR2 b s run pulls = (liesR b s run pulls, 0) := by
  unfold liesR2; rw [if_neg (by rw [h]; decide)]

theorem lies_bad {b : Be} {s : Sh} (hc : (checkR b s).2.2 ≠ 0) : (liesR2 b s ⟨0, 0⟩ []).2 ≠ 0 := by
  have h1 : stepE b s 0 0 ≠ 0 := by rw [stepE00]; exact hc
  have h2 : planE b s ⟨0, 0⟩ [] ≠ 0 := by
    unfold planE; rw [if_pos h1]; exact h1
  unfold liesR2; rw [if_pos h2]; exact h2

theorem laterF_spec (b : Be) (s : Sh) (run : Pu) (target : Int) : ∀ k i, laterF b s run target k i = none ∨ ∃ j, laterF b s run target k i = some j ∧ i ≤ j ∧ j < i + k ∧ (liesR b s run [⟨j, 0⟩]).lo ≥ target
  | 0, i => .inl rfl
  | k + 1, i => by
    simp only [laterF]
    split
    · rename_i h
      exact .inr ⟨i, rfl, Nat.le_refl _, by omega, h⟩
    · rcases laterF_spec b s run target k (i + 1) with h | ⟨j, h1, h2, h3, h4⟩
      · exact .inl h
      · exact .inr ⟨j, h1, by omega, by omega, h4⟩

theorem later_spec {b : Be} {s : Sh} {run : Pu} (hr : run.Ok b) (hst : stepE b s run.tide run.ballast = 0) (target : Int) : laterR b s run target = (0, 9) ∨ ∃ j : Nat, laterR b s run target = ((j : Int), (0 : Int)) ∧ run.tide < j ∧ j < b.tides.length ∧ (liesR b s run [⟨j, 0⟩]).lo ≥ target := by
  have h0 := hr.t0
  have h1 := hr.t1
  unfold laterR
  rw [if_neg (by rw [hst]; decide)]
  rcases laterF_spec b s run target (b.tides.length - (run.tide.toNat + 1)) (run.tide.toNat + 1) with h | ⟨j, h2, h3, h4, h5⟩
  · rw [h]; exact .inl rfl
  · rw [h2]; exact .inr ⟨j, rfl, by omega, by omega, h5⟩

theorem planE_step {b : Be} {s : Sh} {run : Pu} {pulls : List Pu} (h : planE b s run pulls = 0) : stepE b s run.tide run.ballast = 0 := by
  unfold planE at h
  split at h
  · rename_i h1; exact absurd h h1
  · rename_i h1; exact Classical.byContradiction h1

theorem den39p (b : Be) (s : Sh) (hok : Ok b s) {p : Pu} (hp : p.Ok b) (xs : List Int) (h : ∀ x ∈ xs, 0 ≤ x ∧ x ≤ 65535) (hl : xs.length ≤ 9223372036854775807) :
    DN 39 [.agg b.enc, .agg s.enc, .int .i64 p.tide, u16s xs] (.agg (truthR b s p.tide.toNat xs).enc) := by
  have := den39 b s hok p.tide.toNat hp.t1 xs h hl
  have e : ((p.tide.toNat : Nat) : Int) = p.tide := by have := hp.t0; omega
  rw [e] at this; exact this

theorem den38p (b : Be) (s : Sh) (hok : Ok b s) {p : Pu} (hp : p.Ok b) (ys : List Int) {bite : Int} (h0 : 0 ≤ bite) (h1 : bite ≤ 200) :
    DN 38 [.agg s.enc, .agg (trueT b s ys p bite).enc, .int .i64 p.ballast] (.int .i64 (stopT b s ys p bite)) := by
  have hw := hok.weight hp.n0 hp.n1
  exact den38 s _ (trueT_small hok ys hp h0 h1) p.ballast hw.1 hw.2

end Go.Proofs.Tide

namespace Go.Proofs.Tide
open Go.V Go.Proofs

set_option maxRecDepth 100000 in
set_option maxHeartbeats 4000000 in
theorem den12 (b : Be) (s : Sh) (xs ys : List Int) (t : Int) (hxl : xs.length ≤ 9223372036854775807) (hxs : ∀ x ∈ xs, 0 ≤ x ∧ x ≤ 65535) (hyl : ys.length ≤ 9223372036854775807) (hys : ∀ x ∈ ys, 0 ≤ x ∧ x ≤ 65535) (ht0 : -2147483648 ≤ t) (ht1 : t ≤ 2147483647) :
    DN 12 [.agg b.enc, .agg s.enc, .agg [u16s xs, u16s ys, .int .i32 t]] (.bool true) := by
  refine mk Try.func12 Try.call12 rfl rfl ?_
  refine ⟨_, rfl, _, den37 b s, ?_⟩
  refine ⟨fun h1 => ?_, fun h1 => ?_⟩
  · have h1 : (!((checkR b s).2.2 == 0)) = true := h1
    have hc : (checkR b s).2.2 ≠ 0 := by simpa using h1
    have hb := lies_bad hc
    have h30 : DN 30 [.agg b.enc, .agg s.enc, .agg [.int .i64 0, .int .i64 0], .list 0 []] (spanD (liesR2 b s ⟨0, 0⟩ [])) := (den30 b s ⟨0, 0⟩ []).args (.tcons (.refl _) (.tcons (.refl _) (.tcons (.refl _) (.tcons (.nil _ _) .tnil))))
    refine ⟨_, rfl, _, h30, ?_⟩
    refine ⟨fun h => ?_, fun h => ?_⟩
    · refine ⟨_, rfl, _, den23, ?_⟩
      rfl
    · have h : ((liesR2 b s ⟨0, 0⟩ []).2 != 0) = false := h
      exact absurd (by simpa using h) hb
  have h1 : (!((checkR b s).2.2 == 0)) = false := h1
  have h1 : ((checkR b s).2.2 == 0) = true := by simpa using h1
  have hc : (checkR b s).2.2 = 0 := by simpa using h1
  have hok := valid_ok h1
  have hn0 := hok.n0
  have hn12 := hok.n1
  have hbite := hok.bite
  have hlen : ((b.tides.map Ti.enc).length : Int) = b.tides.length := by rw [List.length_map]
  have h42 := den42 b s hok xs hxs hxl
  have hrun := run_ok hok hxs
  have hplan := plan_ok hc hxs
  obtain ⟨run, hre⟩ : ∃ run, runR b xs = run := ⟨_, rfl⟩
  obtain ⟨pulls, hpe⟩ : ∃ pulls, pullsR b xs = pulls := ⟨_, rfl⟩
  rw [hre, hpe] at h42 hplan
  rw [hre] at hrun
  obtain ⟨_, _, hp6, hall⟩ := planE_zero hplan
  have h30 := den30 b s run pulls
  rw [lies_ok hplan] at h30
  refine ⟨_, rfl, _, h42, ?_⟩
  refine ⟨_, rfl, _, h30, ?_⟩
  refine Or.inl ⟨by kernel_rfl, ?_⟩
  refine ⟨_, rfl, _, den39p b s hok hrun ys hys hyl, ?_⟩
  have hst0 : DN 38 [.agg s.enc, .agg (truthR b s run.tide.toNat ys).enc, .int .i64 run.ballast] (.int .i64 (stopT b s ys run 0)) := by
    have := den38p b s hok hrun ys (Int.le_refl 0) (by decide)
    have e : trueT b s ys run 0 = truthR b s run.tide.toNat ys := by unfold trueT; rw [Int.add_zero]
    rw [e] at this; exact this
  refine ⟨_, rfl, _, hst0, ?_⟩
  refine ⟨[3, 4, 5, 9, 10, 11, 12, 13, 14, 15], 5, [], fun σ => ∃ (k : Nat), k ≤ pulls.length ∧
    σ = ⟨[(3, .loc 0 0), (4, .loc 1 0), (5, .loc 2 0), (9, .loc 3 0), (10, pullsD pulls), (11, .loc 4 0), (12, .int .i64 0), (13, .int .i64 (stopT b s ys run 0)), (14, .int .i64 (lieT b s ys run (pulls.take k))), (15, .int .i64 k)],
      [.flat false b.enc, .flat false s.enc, .flat false [u16s xs, u16s ys, .int .i32 t], .flat false run.enc, .flat false (liesR b s run pulls).enc], .non⟩,
    fun σ => ((pulls.length : Int) - slotI 15 σ).toNat, by kernel_rfl, ⟨by kernel_rfl, by kernel_rfl⟩, ⟨0, Nat.zero_le _, by kernel_rfl⟩, ?_⟩
  rintro σ ⟨k, hk, rfl⟩
  refine ⟨fun h2 => ?_, fun h2 => ?_⟩
  · have h2 := of_decide_eq_true h2
    rw [List.length_map] at h2
    have hk' : k < pulls.length := by omega
    have hrow : (pulls.map Pu.enc)[((k : Int)).toNat]? = some (pulls[k].enc) := by simp [hk']
    have hpk := hall _ (List.getElem_mem hk')
    have hth := hok.height _ hpk.t1
    unfold Sp.In at hth
    have hth2 := (hok.truth_of _ hpk.t1 ys).2.2.1
    simp only [boxOf] at hth2
    refine Or.inl ⟨by kernel_rfl, ?_⟩
    refine ⟨by omega, _, hrow, ?_⟩
    refine ⟨_, rfl, _, den39p b s hok hpk ys hys hyl, ?_⟩
    refine ⟨_, wrap64 (n := (truthR b s pulls[k].tide.toNat ys).height + b.bite) (by omega) (by omega), ?_⟩
    refine Or.inl ⟨by kernel_rfl, ?_⟩
    refine ⟨by omega, _, hrow, ?_⟩
    refine ⟨_, rfl, _, den38p b s hok hpk ys hbite.1 hbite.2, ?_⟩
    refine ⟨_, wrap64 (n := (k : Int) + 1) (by omega) (by omega), ?_⟩
    refine ⟨⟨by kernel_rfl, by kernel_rfl⟩, ⟨k + 1, hk', ?_⟩, ?_⟩
    · rw [List.take_succ_eq_append_getElem hk', lieT_snoc]; rfl
    · show ((pulls.length : Int) - ((k : Int) + 1)).toNat < ((pulls.length : Int) - (k : Int)).toNat
      omega
  have h2 := of_decide_eq_false h2
  rw [List.length_map] at h2
  have hk' : k = pulls.length := by omega
  subst hk'
  have hin := lieT_in hok ys hrun hall
  rw [List.take_length]
  refine ⟨fun h => absurd (show false = true from h) (by decide), fun _ => ?_⟩
  refine ⟨_, rfl, _, den40t (s := liesR b s run pulls) hin, ?_⟩
  refine ⟨fun h => absurd (show false = true from h) (by decide), fun _ => ?_⟩
  refine ⟨fun h3 => ?_, fun h3 => ?_⟩
  · have h3 : (((pulls.map Pu.enc).length : Nat) : Int) > 0 := of_decide_eq_true h3
    rw [List.length_map] at h3
    have hl0 : 0 < pulls.length := by omega
    have htake : (pulls.map Pu.enc).take (((pulls.length - 1 : Nat) : Int)).toNat = (pulls.take (pulls.length - 1)).map Pu.enc := by
      rw [show (((pulls.length - 1 : Nat) : Int)).toNat = pulls.length - 1 from rfl, List.map_take]
    have hless := lies_less hok (run := run) hl0
    have h30' := den30 b s run (pulls.take (pulls.length - 1))
    rw [lies_ok (planE_take _ hplan)] at h30'
    refine Or.inr ⟨13, [11], by kernel_rfl, ?_⟩
    refine ⟨((pulls.length - 1 : Nat) : Int), (wrap64 (n := (((pulls.map Pu.enc).length : Nat) : Int) - 1) (by rw [List.length_map]; omega) (by rw [List.length_map]; omega)).trans (by rw [List.length_map]; omega), ?_⟩
    refine ⟨⟨by omega, by rw [List.length_map]; omega⟩, _, htake, ?_⟩
    refine ⟨_, rfl, _, h30', ?_⟩
    refine ⟨⟨rfl, trivial⟩, ?_⟩
    refine ⟨⟨rfl, trivial⟩, ?_⟩
    refine ⟨fun h => absurd (show false = true from h) (by decide), fun _ => ?_⟩
    refine ⟨fun h => absurd (show (liesR b s run (pulls.take (pulls.length - 1))).lo > (liesR b s run pulls).lo from of_decide_eq_true h) (by omega), fun _ => ?_⟩
    refine ⟨fun h => absurd (show (liesR b s run (pulls.take (pulls.length - 1))).hi > (liesR b s run pulls).hi from of_decide_eq_true h) (by omega), fun _ => ?_⟩
    refine ⟨_, wrap64 (n := t) (by omega) (by omega), ?_⟩
    have h32 := den32 b s run t
    rcases later_spec hrun (planE_step hplan) t with e2 | ⟨j, e2, hj0, hj1, hj2⟩
    · rw [e2] at h32
      refine ⟨_, rfl, _, h32, ?_⟩
      refine ⟨fun _ => ?_, fun h => absurd (show true = false from h) (by decide)⟩
      refine ⟨fun _ => ?_, fun h => absurd (show true = false from h) (by decide)⟩
      refine ⟨_, rfl, _, den23, ?_⟩
      rfl
    · rw [e2] at h32
      have hjok := later_ok hj1
      have hall1 : ∀ p ∈ [(⟨(j : Int), 0⟩ : Pu)], p.Ok b := fun p hp => by
        rw [List.mem_singleton.1 hp]; exact hjok
      have hin := (lieT_in hok ys hrun hall1).1
      have hge : max (stopT b s ys run 0) (stopT b s ys ⟨j, 0⟩ b.bite) ≥ t := Int.le_trans hj2 hin
      have htr := hok.truth_of j hj1 ys
      have hth := hok.height j hj1
      unfold Sp.In at hth
      have hth2 := htr.2.2.1
      simp only [boxOf] at hth2
      refine ⟨_, rfl, _, h32, ?_⟩
      refine ⟨fun h => absurd (show false = true from h) (by decide), fun _ => ?_⟩
      refine ⟨fun h => absurd (show (j : Int) ≤ run.tide from of_decide_eq_true h) (by omega), fun _ => ?_⟩
      refine ⟨fun h => absurd (show (j : Int) ≥ ((b.tides.map Ti.enc).length : Int) from of_decide_eq_true h) (by rw [hlen]; omega), fun _ => ?_⟩
      refine ⟨_, rfl, _, den39 b s hok j hj1 ys hys hyl, ?_⟩
      refine ⟨_, wrap64 (n := (truthR b s j ys).height + b.bite) (by omega) (by omega), ?_⟩
      refine ⟨_, rfl, _, den38p b s hok hjok ys hbite.1 hbite.2, ?_⟩
      refine ⟨fun _ => ?_, fun h => absurd (show ¬ (max (stopT b s ys run 0) (stopT b s ys ⟨j, 0⟩ b.bite) ≥ t) from of_decide_eq_false h) (by omega)⟩
      refine ⟨_, rfl, _, den23, ?_⟩
      rfl
  · skip
    refine ⟨_, wrap64 (n := t) (by omega) (by omega), ?_⟩
    have h32 := den32 b s run t
    rcases later_spec hrun (planE_step hplan) t with e2 | ⟨j, e2, hj0, hj1, hj2⟩
    · rw [e2] at h32
      refine ⟨_, rfl, _, h32, ?_⟩
      refine ⟨fun _ => ?_, fun h => absurd (show true = false from h) (by decide)⟩
      refine ⟨fun _ => ?_, fun h => absurd (show true = false from h) (by decide)⟩
      refine ⟨_, rfl, _, den23, ?_⟩
      rfl
    · rw [e2] at h32
      have hjok := later_ok hj1
      have hall1 : ∀ p ∈ [(⟨(j : Int), 0⟩ : Pu)], p.Ok b := fun p hp => by
        rw [List.mem_singleton.1 hp]; exact hjok
      have hin := (lieT_in hok ys hrun hall1).1
      have hge : max (stopT b s ys run 0) (stopT b s ys ⟨j, 0⟩ b.bite) ≥ t := Int.le_trans hj2 hin
      have htr := hok.truth_of j hj1 ys
      have hth := hok.height j hj1
      unfold Sp.In at hth
      have hth2 := htr.2.2.1
      simp only [boxOf] at hth2
      refine ⟨_, rfl, _, h32, ?_⟩
      refine ⟨fun h => absurd (show false = true from h) (by decide), fun _ => ?_⟩
      refine ⟨fun h => absurd (show (j : Int) ≤ run.tide from of_decide_eq_true h) (by omega), fun _ => ?_⟩
      refine ⟨fun h => absurd (show (j : Int) ≥ ((b.tides.map Ti.enc).length : Int) from of_decide_eq_true h) (by rw [hlen]; omega), fun _ => ?_⟩
      refine ⟨_, rfl, _, den39 b s hok j hj1 ys hys hyl, ?_⟩
      refine ⟨_, wrap64 (n := (truthR b s j ys).height + b.bite) (by omega) (by omega), ?_⟩
      refine ⟨_, rfl, _, den38p b s hok hjok ys hbite.1 hbite.2, ?_⟩
      refine ⟨fun _ => ?_, fun h => absurd (show ¬ (max (stopT b s ys run 0) (stopT b s ys ⟨j, 0⟩ b.bite) ≥ t) from of_decide_eq_false h) (by omega)⟩
      refine ⟨_, rfl, _, den23, ?_⟩
      rfl

end Go.Proofs.Tide

namespace Go.Proofs.Tide
open Go.V Go.Proofs

theorem strange_of {bs : List Bd} (h : ∀ b ∈ bs, b.l ≤ b.lo ∧ b.lo ≤ b.hi ∧ b.hi ≤ b.h) : strangeE bs = 0 := by
  have h1 : bs.any Bd.out = false := by
    rw [List.any_eq_false]
    intro b hb
    have := h b hb
    unfold Bd.out
    simp; omega
  have h2 : bs.any Bd.bad = false := by
    rw [List.any_eq_false]
    intro b hb
    have := h b hb
    unfold Bd.bad
    simp; omega
  unfold strangeE; rw [h1, h2]

theorem badFrom_of {l : List Ti} : ∀ (n i : Nat), (∀ j, i ≤ j → j < i + n → errAt l j = 0) → badFrom l n i = none
  | 0, _, _ => rfl
  | n + 1, i, h => by
    simp only [badFrom]
    rw [if_pos (h i (by omega) (by omega))]
    exact badFrom_of n (i + 1) fun j h1 h2 => h j (by omega) (by omega)

/-- What is so of a beach and a ship makes them valid. -/
theorem check_ok {b : Be} {s : Sh} (h : Ok b s) : (checkR b s).2.2 = 0 := by
  obtain ⟨n0, n1, slope, marks, bite, draft, sink, day, height, wind, order⟩ := h
  unfold Sp.In at slope marks draft
  have e1 : err1 b = 0 := strange_of fun x hx => by
    simp only [List.mem_cons, List.not_mem_nil, or_false] at hx
    rcases hx with rfl | rfl | rfl <;> simp only [Sp.bd] <;> omega
  have e3 : err3 s = 0 := strange_of fun x hx => by
    simp only [List.mem_cons, List.not_mem_nil, or_false] at hx
    rcases hx with rfl | rfl <;> simp only [Sp.bd] <;> omega
  have eT : badFrom b.tides b.tides.length 0 = none := badFrom_of _ _ fun j _ hj => by
    have hj : j < b.tides.length := by omega
    have d1 := day j hj
    have d2 := height j hj
    have d3 := wind j hj
    unfold Sp.In at d2 d3
    have et : errT b.tides[j] = 0 := strange_of fun x hx => by
      simp only [List.mem_cons, List.not_mem_nil, or_false] at hx
      rcases hx with rfl | rfl | rfl <;> simp only [Sp.bd] <;> omega
    unfold errAt
    rw [List.getElem?_eq_getElem hj]
    simp only
    rw [if_pos et]
    by_cases hj0 : 0 < j
    · have := order (j - 1) (by omega)
      have hd : dayAt b.tides (j - 1) = b.tides[j - 1].day := by simp [dayAt, show j - 1 < b.tides.length by omega]
      rw [if_neg]
      rintro ⟨_, h⟩
      rw [hd] at h
      simp only [show j - 1 + 1 = j by omega] at this
      omega
    · rw [if_neg (fun h => hj0 h.1)]
  unfold checkR
  rw [if_neg (by omega), if_neg (by omega), eT]
  simp only
  rw [if_neg (by omega)]

def nearR (a : Sp) (n d : Int) : Sp := ⟨max a.lo (n - d), min a.hi (n + d)⟩

theorem den44 (a : Sp) (n d : Int) (h0 : -10000000 ≤ n) (h1 : n ≤ 10000000) (h2 : 0 ≤ d) (h3 : d ≤ 10000000) : DN 44 [.agg a.enc, .int .i64 n, .int .i64 d] (.agg (nearR a n d).enc) := by
  refine mk Try.func44 Try.call44 rfl rfl ?_
  refine ⟨_, wrap64 (n := n - d) (by omega) (by omega), ?_⟩
  refine ⟨_, wrap64 (n := n + d) (by omega) (by omega), ?_⟩
  refine ⟨_, rfl, _, den36 _ _, ?_⟩
  rfl

/-- A tide with ranges round a truth. -/
def fineT (b : Be) (s : Sh) (ys : List Int) (d : Int) (i : Nat) (t : Ti) : Ti := ⟨t.day, nearR t.height (truthR b s i ys).height d, nearR t.wind (truthR b s i ys).wind d⟩
def fineL (b : Be) (s : Sh) (ys : List Int) (d : Int) : List Ti := b.tides.mapIdx (fineT b s ys d)
def fineB (b : Be) (s : Sh) (ys : List Int) (d : Int) : Be := ⟨nearR b.slope (amongR b.slope (turnR ys 0)) d, ⟨max (-2000000) (b.marks.lo - d), min 2000000 (b.marks.hi + d)⟩, b.bite, fineL b s ys d⟩
def fineS (s : Sh) (ys : List Int) (d : Int) : Sh := ⟨nearR s.draft (amongR s.draft (turnR ys 1)) d, s.sink⟩

theorem fineL_len (b : Be) (s : Sh) (ys : List Int) (d : Int) : (fineL b s ys d).length = b.tides.length := by simp [fineL]
theorem fineL_get (b : Be) (s : Sh) (ys : List Int) (d : Int) (i : Nat) (h : i < (fineL b s ys d).length) : (fineL b s ys d)[i] = fineT b s ys d i (b.tides[i]'(by rw [fineL_len] at h; exact h)) := by simp [fineL]

theorem fineB_get (b : Be) (s : Sh) (ys : List Int) (d : Int) (i : Nat) (h : i < (fineB b s ys d).tides.length) : (fineB b s ys d).tides[i] = fineT b s ys d i (b.tides[i]'(by have h' : i < (fineL b s ys d).length := h; rw [fineL_len] at h'; exact h')) := fineL_get b s ys d i h

theorem near_in {a : Sp} {n d : Int} (h : a.lo ≤ n ∧ n ≤ a.hi) (hd : 0 ≤ d) : a.lo ≤ (nearR a n d).lo ∧ (nearR a n d).lo ≤ (nearR a n d).hi ∧ (nearR a n d).hi ≤ a.hi := by
  simp only [nearR]; omega

theorem fine_ok {b : Be} {s : Sh} (hok : Ok b s) (ys : List Int) {d : Int} (hd : 0 ≤ d) : Ok (fineB b s ys d) (fineS s ys d) := by
  have h1 := hok.slope
  have h2 := hok.marks
  have h3 := hok.draft
  unfold Sp.In at h1 h2 h3
  have g1 := near_in (among_in h1.2.1 (turnR ys 0)) hd
  have g3 := near_in (among_in h3.2.1 (turnR ys 1)) hd
  have hl := fineL_len b s ys d
  refine ⟨by show 1 ≤ (fineL b s ys d).length; rw [hl]; exact hok.n0, by show (fineL b s ys d).length ≤ 12; rw [hl]; exact hok.n1, ?_, ?_, hok.bite, ?_, hok.sink, fun i hi => ?_, fun i hi => ?_, fun i hi => ?_, fun i hi => ?_⟩
  · unfold Sp.In; simp only [fineB]; omega
  · unfold Sp.In; simp only [fineB]; omega
  · unfold Sp.In; simp only [fineS]; omega
  · have hi' : i < b.tides.length := by rw [← hl]; exact hi
    rw [fineB_get]; exact hok.day i hi'
  · have hi' : i < b.tides.length := by rw [← hl]; exact hi
    have h4 := hok.height i hi'
    unfold Sp.In at h4 ⊢
    obtain ⟨_, _, t3, _⟩ := hok.truth_of i hi' ys
    have g4 := near_in t3 hd
    rw [fineB_get]
    simp only [fineT, boxOf] at g4 ⊢
    omega
  · have hi' : i < b.tides.length := by rw [← hl]; exact hi
    have h4 := hok.wind i hi'
    unfold Sp.In at h4 ⊢
    obtain ⟨_, _, _, t4⟩ := hok.truth_of i hi' ys
    have g4 := near_in t4 hd
    rw [fineB_get]
    simp only [fineT, boxOf] at g4 ⊢
    omega
  · have hi' : i + 1 < b.tides.length := by rw [← hl]; exact hi
    rw [fineB_get, fineB_get]; exact hok.order i hi'

/-- One box lies in another one. -/
structure Bx.In (x y : Bx) : Prop where
  slope : y.slope.lo ≤ x.slope.lo ∧ x.slope.lo ≤ x.slope.hi ∧ x.slope.hi ≤ y.slope.hi
  draft : y.draft.lo ≤ x.draft.lo ∧ x.draft.hi ≤ y.draft.hi
  height : y.height.lo ≤ x.height.lo ∧ x.height.hi ≤ y.height.hi
  wind : y.wind.lo ≤ x.wind.lo ∧ x.wind.hi ≤ y.wind.hi

theorem reach_in {x y : Bx} (h : x.In y) (h0 : 0 < y.slope.lo) (k n : Int) : (reachR k y n 0).lo ≤ (reachR k x n 0).lo ∧ (reachR k x n 0).hi ≤ (reachR k y n 0).hi := by
  obtain ⟨⟨a1, a2, a3⟩, ⟨b1, b2⟩, ⟨c1, c2⟩, d1, d2⟩ := h
  have p1 := (div_between (1000 * (y.height.lo + y.wind.lo + 0 - y.draft.hi - k * n)) h0 a1 (by omega : x.slope.lo ≤ y.slope.hi)).1
  have p2 := (div_between (1000 * (y.height.lo + y.wind.lo + 0 - y.draft.hi - k * n)) h0 (by omega : y.slope.lo ≤ x.slope.hi) a3).1
  have p3 := (div_between (1000 * (y.height.hi + y.wind.hi + 0 - y.draft.lo - k * n)) h0 a1 (by omega : x.slope.lo ≤ y.slope.hi)).2
  have p4 := (div_between (1000 * (y.height.hi + y.wind.hi + 0 - y.draft.lo - k * n)) h0 (by omega : y.slope.lo ≤ x.slope.hi) a3).2
  have q1 : 1000 * (y.height.lo + y.wind.lo + 0 - y.draft.hi - k * n) / x.slope.lo ≤ 1000 * (x.height.lo + x.wind.lo + 0 - x.draft.hi - k * n) / x.slope.lo := Int.ediv_le_ediv (by omega) (by omega)
  have q2 : 1000 * (y.height.lo + y.wind.lo + 0 - y.draft.hi - k * n) / x.slope.hi ≤ 1000 * (x.height.lo + x.wind.lo + 0 - x.draft.hi - k * n) / x.slope.hi := Int.ediv_le_ediv (by omega) (by omega)
  have q3 : 1000 * (x.height.hi + x.wind.hi + 0 - x.draft.lo - k * n) / x.slope.lo ≤ 1000 * (y.height.hi + y.wind.hi + 0 - y.draft.lo - k * n) / x.slope.lo := Int.ediv_le_ediv (by omega) (by omega)
  have q4 : 1000 * (x.height.hi + x.wind.hi + 0 - x.draft.lo - k * n) / x.slope.hi ≤ 1000 * (y.height.hi + y.wind.hi + 0 - y.draft.lo - k * n) / x.slope.hi := Int.ediv_le_ediv (by omega) (by omega)
  have r1 := Int.le_trans p1 q1
  have r2 := Int.le_trans p2 q2
  have r3 := Int.le_trans q3 p3
  have r4 := Int.le_trans q4 p4
  simp only [reachR, atR]
  omega

theorem fine_box {b : Be} {s : Sh} (hok : Ok b s) (ys : List Int) {d : Int} (hd : 0 ≤ d) {i : Nat} (hi : i < b.tides.length) (hi' : i < (fineB b s ys d).tides.length) : (boxOf (fineB b s ys d) (fineS s ys d) ((fineB b s ys d).tides[i]'hi')).In (boxOf b s b.tides[i]) := by
  have e : (fineB b s ys d).tides[i]'hi' = fineT b s ys d i b.tides[i] := fineL_get b s ys d i hi'
  rw [e]
  obtain ⟨t1, t2, t3, t4⟩ := hok.truth_of i hi ys
  have g1 := near_in (among_in hok.slope.2.1 (turnR ys 0)) hd
  have g2 := near_in (among_in hok.draft.2.1 (turnR ys 1)) hd
  have g3 := near_in t3 hd
  have g4 := near_in t4 hd
  exact ⟨g1, ⟨g2.1, g2.2.2⟩, ⟨g3.1, g3.2.2⟩, g4.1, g4.2.2⟩

theorem fine_within {b : Be} {s : Sh} (hok : Ok b s) (ys : List Int) {d : Int} (hd : 0 ≤ d) {i : Nat} (hi : i < b.tides.length) (hi' : i < (fineB b s ys d).tides.length) {n : Int} (h : withinR b s.sink (boxOf b s b.tides[i]) n = true) :
    withinR (fineB b s ys d) (fineS s ys d).sink (boxOf (fineB b s ys d) (fineS s ys d) ((fineB b s ys d).tides[i]'hi')) n = true := by
  have hsl : 0 < (boxOf b s b.tides[i]).slope.lo := by have := hok.slope.1; simp only [boxOf]; omega
  have hr := reach_in (fine_box hok ys hd hi hi') hsl s.sink n
  have hw := within_iff.1 h
  have hm := hok.marks
  unfold Sp.In at hm
  have e1 : (fineB b s ys d).marks.lo = max (-2000000) (b.marks.lo - d) := rfl
  have e2 : (fineB b s ys d).marks.hi = min 2000000 (b.marks.hi + d) := rfl
  refine within_iff.2 ⟨?_, ?_⟩
  · rw [e1]
    show max (-2000000) (b.marks.lo - d) ≤ (reachR s.sink _ n 0).lo
    omega
  · rw [e2]
    show (reachR s.sink _ n 0).hi ≤ min 2000000 (b.marks.hi + d)
    omega

theorem fine_pu {b : Be} {s : Sh} (ys : List Int) (d : Int) {p : Pu} (hp : p.Ok b) : p.Ok (fineB b s ys d) :=
  ⟨hp.t0, by show p.tide.toNat < (fineL b s ys d).length; rw [fineL_len]; exact hp.t1, hp.n0, hp.n1⟩

theorem fine_over {b : Be} {s : Sh} (hok : Ok b s) (ys : List Int) {d : Int} (hd : 0 ≤ d) {p : Pu} (hp : p.Ok b) (bite : Int) :
    (overR b s p bite).lo ≤ (overR (fineB b s ys d) (fineS s ys d) p bite).lo ∧ (overR (fineB b s ys d) (fineS s ys d) p bite).hi ≤ (overR b s p bite).hi := by
  have hp' := fine_pu (s := s) ys d hp
  have hx := fine_box hok ys hd hp.t1 hp'.t1
  obtain ⟨_, ⟨b1, b2⟩, ⟨c1, c2⟩, d1, d2⟩ := hx
  simp only [boxOf] at b1 b2 c1 c2 d1 d2
  simp only [overR, tideAt_eq hp, tideAt_eq hp']
  have e : (fineS s ys d).sink = s.sink := rfl
  rw [e]
  omega

theorem fine_top {b : Be} {s : Sh} (hok : Ok b s) (ys : List Int) {d : Int} (hd : 0 ≤ d) {run : Pu} (hr : run.Ok b) {pulls : List Pu} (hp : ∀ p ∈ pulls, p.Ok b) :
    (topR b s run pulls).lo ≤ (topR (fineB b s ys d) (fineS s ys d) run pulls).lo ∧ (topR (fineB b s ys d) (fineS s ys d) run pulls).hi ≤ (topR b s run pulls).hi := by
  have main : ∀ (l : List Pu) (o o' : Sp), (∀ p ∈ l, p.Ok b) → o.lo ≤ o'.lo → o'.hi ≤ o.hi →
      (l.foldl (fun o p => maxS o (overR b s p b.bite)) o).lo ≤ (l.foldl (fun o p => maxS o (overR (fineB b s ys d) (fineS s ys d) p b.bite)) o').lo ∧ (l.foldl (fun o p => maxS o (overR (fineB b s ys d) (fineS s ys d) p b.bite)) o').hi ≤ (l.foldl (fun o p => maxS o (overR b s p b.bite)) o).hi := by
    intro l
    induction l with
    | nil => intro o o' _ h1 h2; exact ⟨h1, h2⟩
    | cons p r ih =>
      intro o o' hl h1 h2
      have := fine_over hok ys hd (hl p (by simp)) b.bite
      simp only [List.foldl_cons]
      exact ih _ _ (fun q hq => hl q (by simp [hq])) (by simp only [maxS]; omega) (by simp only [maxS]; omega)
  have h0 := fine_over hok ys hd hr 0
  exact main pulls _ _ hp h0.1 h0.2

theorem fine_lies {b : Be} {s : Sh} (hok : Ok b s) (ys : List Int) {d : Int} (hd : 0 ≤ d) {run : Pu} (hr : run.Ok b) {pulls : List Pu} (hp : ∀ p ∈ pulls, p.Ok b) :
    (liesR b s run pulls).lo ≤ (liesR (fineB b s ys d) (fineS s ys d) run pulls).lo ∧ (liesR (fineB b s ys d) (fineS s ys d) run pulls).hi ≤ (liesR b s run pulls).hi := by
  obtain ⟨h1, h2⟩ := fine_top hok ys hd hr hp
  have hs := hok.slope
  unfold Sp.In at hs
  obtain ⟨g1, g2, g3⟩ := near_in (among_in hok.slope.2.1 (turnR ys 0)) hd
  have e1 : (fineB b s ys d).slope.lo = (nearR b.slope (amongR b.slope (turnR ys 0)) d).lo := rfl
  have e2 : (fineB b s ys d).slope.hi = (nearR b.slope (amongR b.slope (turnR ys 0)) d).hi := rfl
  rw [← e1] at g1 g2
  rw [← e2] at g2 g3
  revert h1 h2 g1 g2 g3
  simp only [liesR]
  generalize topR (fineB b s ys d) (fineS s ys d) run pulls = T'
  generalize topR b s run pulls = T
  generalize (fineB b s ys d).slope.lo = l'
  generalize (fineB b s ys d).slope.hi = u'
  intro h1 h2 g1 g2 g3
  have p1 := (div_between (1000 * T.lo) (by omega : 0 < b.slope.lo) g1 (by omega : l' ≤ b.slope.hi)).1
  have p2 := (div_between (1000 * T.lo) (by omega : 0 < b.slope.lo) (by omega : b.slope.lo ≤ u') g3).1
  have p3 := (div_between (1000 * T.hi) (by omega : 0 < b.slope.lo) g1 (by omega : l' ≤ b.slope.hi)).2
  have p4 := (div_between (1000 * T.hi) (by omega : 0 < b.slope.lo) (by omega : b.slope.lo ≤ u') g3).2
  have q1 : 1000 * T.lo / l' ≤ 1000 * T'.lo / l' := Int.ediv_le_ediv (by omega) (by omega)
  have q2 : 1000 * T.lo / u' ≤ 1000 * T'.lo / u' := Int.ediv_le_ediv (by omega) (by omega)
  have q3 : 1000 * T'.hi / l' ≤ 1000 * T.hi / l' := Int.ediv_le_ediv (by omega) (by omega)
  have q4 : 1000 * T'.hi / u' ≤ 1000 * T.hi / u' := Int.ediv_le_ediv (by omega) (by omega)
  omega

end Go.Proofs.Tide

namespace Go.Proofs.Tide
open Go.V Go.Proofs

def slopeK (b : Be) (ys : List Int) (d : Int) : Nat → Sp
  | 0 => b.slope
  | _ + 1 => nearR b.slope (amongR b.slope (turnR ys 0)) d
def draftK (s : Sh) (ys : List Int) (d : Int) : Nat → Sp
  | 0 => s.draft
  | _ + 1 => nearR s.draft (amongR s.draft (turnR ys 1)) d

theorem pullsE_congr {b b' : Be} (hl : b'.tides.length = b.tides.length) : ∀ (l : List Pu) (last : Int), pullsE b' last l = pullsE b last l
  | [], _ => rfl
  | p :: r, last => by
    have e : errTB b' p.tide p.ballast = errTB b p.tide p.ballast := by unfold errTB; rw [hl]
    simp only [pullsE, e, pullsE_congr hl r]

theorem plan_congr {b b' : Be} {s s' : Sh} (hl : b'.tides.length = b.tides.length) (hc : (checkR b' s').2.2 = 0) {run : Pu} {pulls : List Pu} (h : planE b s run pulls = 0) : planE b' s' run pulls = 0 := by
  obtain ⟨_, hr, h6, _⟩ := planE_zero h
  have a0 := hr.t0
  have a1 := hr.t1
  have a2 := hr.n0
  have a3 := hr.n1
  have h1 : stepE b' s' run.tide run.ballast = 0 := by
    unfold stepE errTB
    rw [if_neg (by omega), if_neg (by omega), if_neg (by omega)]
  unfold planE at h ⊢
  rw [if_neg (by omega), if_neg (by omega), pullsE_congr hl]
  split at h
  · rename_i h2; exact absurd h h2
  · split at h
    · exact absurd h (by decide)
    · exact h

theorem found_nat {b : Be} {s : Sh} {n x : Int} : ∀ {m : Nat}, x ∈ found b s n m → ∃ i : Nat, x = i ∧ i < b.tides.length
  | 0, h => by cases h
  | m + 1, h => by
    simp only [found] at h
    split at h
    · rename_i t ht
      have hm := (List.getElem?_eq_some_iff.1 ht).1
      split at h
      · rcases List.mem_append.1 h with h | h
        · exact found_nat h
        · exact ⟨m, List.mem_singleton.1 h, hm⟩
      · exact found_nat h
    · exact found_nat h

set_option maxRecDepth 100000 in
set_option maxHeartbeats 4000000 in
theorem den14 (b : Be) (s : Sh) (xs ys : List Int) (t : Int) (hxl : xs.length ≤ 9223372036854775807) (hxs : ∀ x ∈ xs, 0 ≤ x ∧ x ≤ 65535) (hyl : ys.length ≤ 9223372036854775807) (hys : ∀ x ∈ ys, 0 ≤ x ∧ x ≤ 65535) (ht0 : -2147483648 ≤ t) (ht1 : t ≤ 2147483647) :
    DN 14 [.agg b.enc, .agg s.enc, .agg [u16s xs, u16s ys, .int .i32 t]] (.bool true) := by
  refine mk Try.func14 Try.call14 rfl rfl ?_
  refine ⟨_, rfl, _, den37 b s, ?_⟩
  refine ⟨fun h1 => ?_, fun h1 => ?_⟩
  · refine ⟨_, rfl, _, den23, ?_⟩
    rfl
  have h1 : (!((checkR b s).2.2 == 0)) = false := h1
  have h1 : ((checkR b s).2.2 == 0) = true := by simpa using h1
  have hc : (checkR b s).2.2 = 0 := by simpa using h1
  have hok := valid_ok h1
  have hn0 := hok.n0
  have hn12 := hok.n1
  have hlen : ((b.tides.map Ti.enc).length : Int) = b.tides.length := by rw [List.length_map]
  have h42 := den42 b s hok xs hxs hxl
  have hrun := run_ok hok hxs
  have hplan := plan_ok hc hxs
  obtain ⟨run, hre⟩ : ∃ run, runR b xs = run := ⟨_, rfl⟩
  obtain ⟨pulls, hpe⟩ : ∃ pulls, pullsR b xs = pulls := ⟨_, rfl⟩
  rw [hre, hpe] at h42 hplan
  rw [hre] at hrun
  obtain ⟨rt, n⟩ := run
  obtain ⟨i, rfl⟩ : ∃ i : Nat, rt = i := ⟨rt.toNat, by have := hrun.t0; simp only at this; omega⟩
  have hi : i < b.tides.length := hrun.t1
  have hk0 : 0 ≤ n := hrun.n0
  have hk1 : n ≤ 40 := hrun.n1
  obtain ⟨_, _, hp6, hall⟩ := planE_zero hplan
  have u4 := turnR_in hys 4
  obtain ⟨d, hd, hd0, hd1⟩ : ∃ d, (turnR ys 4).tmod 50 = d ∧ 0 ≤ d ∧ d < 50 := ⟨turnR ys 4 % 50, Int.tmod_eq_emod_of_nonneg u4.1, by omega, by omega⟩
  have hs1 := hok.slope
  have hs2 := hok.draft
  have hs3 := hok.marks
  unfold Sp.In at hs1 hs2 hs3
  have a1 := among_in hs1.2.1 (turnR ys 0)
  have a2 := among_in hs2.2.1 (turnR ys 1)
  have hfok := fine_ok hok ys hd0
  have hfc := check_ok hfok
  have hfplan : planE (fineB b s ys d) (fineS s ys d) ⟨i, n⟩ pulls = 0 := plan_congr (fineL_len b s ys d) hfc hplan
  refine ⟨_, rfl, _, h42, ?_⟩
  refine ⟨_, rfl, _, den43 ys hys hyl 4 (by decide), ?_⟩
  refine ⟨by decide, _, hd, ?_⟩
  refine Or.inr ⟨4, [1], by kernel_rfl, ?_⟩
  refine ⟨⟨rfl, trivial⟩, ?_⟩
  refine ⟨⟨rfl, trivial⟩, ?_⟩
  refine ⟨[3, 4, 5, 7, 8, 9, 10, 11, 12], 6, [(.cell 4 5, 5)], fun σ => ∃ (k g : Nat) (rows : List (List D)), k ≤ b.tides.length ∧ rows = ((fineL b s ys d).take k).map Ti.enc ∧
    σ = ⟨[(3, .loc 0 0), (4, .loc 1 0), (5, .loc 2 0), (7, .loc 3 0), (8, pullsD pulls), (9, .int .i64 d), (10, .loc 4 0), (11, .loc 5 0), (12, .int .i64 k)],
      [.flat false b.enc, .flat false s.enc, .flat false [u16s xs, u16s ys, .int .i32 t], .flat false [.int .i64 i, .int .i64 n],
        .flat false [.int .i64 (slopeK b ys d k).lo, .int .i64 (slopeK b ys d k).hi, .int .i64 b.marks.lo, .int .i64 b.marks.hi, .int .i64 b.bite, .sl 6 g 0 rows.length], .flat false [.int .i64 (draftK s ys d k).lo, .int .i64 (draftK s ys d k).hi, .int .i64 s.sink], .rows false g 5 rows], .non⟩,
    fun σ => ((b.tides.length : Int) - slotI 12 σ).toNat, by kernel_rfl, ⟨by kernel_rfl, by kernel_rfl⟩, ⟨0, 0, [], Nat.zero_le _, rfl, by kernel_rfl⟩, ?_⟩
  rintro σ ⟨k, g, rows, hk, hrows, rfl⟩
  have hrl : rows.length = k := by rw [hrows, List.length_map, List.length_take, fineL_len]; omega
  refine ⟨fun h2 => ?_, fun h2 => ?_⟩
  · have h2 := of_decide_eq_true h2
    rw [hlen] at h2
    have hk' : k < b.tides.length := by omega
    have hrow : (b.tides.map Ti.enc)[((k : Int)).toNat]? = some (b.tides[k].enc) := by simp [hk']
    obtain ⟨_, _, t3, t4⟩ := hok.truth_of k hk' ys
    have hh := hok.height k hk'
    have hw := hok.wind k hk'
    unfold Sp.In at hh hw
    simp only [boxOf] at t3 t4
    refine ⟨_, rfl, _, den39 b s hok k hk' ys hys hyl, ?_⟩
    refine Or.inl ⟨by kernel_rfl, ?_⟩
    refine ⟨_, rfl, _, den44 b.slope (amongR b.slope (turnR ys 0)) d (by omega) (by omega) hd0 (by omega), ?_⟩
    refine ⟨_, rfl, _, den44 s.draft (amongR s.draft (turnR ys 1)) d (by omega) (by omega) hd0 (by omega), ?_⟩
    refine Or.inl ⟨by kernel_rfl, ?_⟩
    refine ⟨by omega, _, hrow, ?_⟩
    refine ⟨by omega, _, hrow, ?_⟩
    refine ⟨_, rfl, _, den44 b.tides[k].height (truthR b s k ys).height d (by omega) (by omega) hd0 (by omega), ?_⟩
    refine ⟨by omega, _, hrow, ?_⟩
    refine ⟨_, rfl, _, den44 b.tides[k].wind (truthR b s k ys).wind d (by omega) (by omega) hd0 (by omega), ?_⟩
    have hall : rows ++ [(fineT b s ys d k b.tides[k]).enc] = ((fineL b s ys d).take (k + 1)).map Ti.enc := by
      have hkl : k < (fineL b s ys d).length := by rw [fineL_len]; exact hk'
      rw [hrows, List.take_succ_eq_append_getElem hkl, List.map_append, fineL_get]; rfl
    refine ⟨trivial, iff' (by rw [beq_self]; rfl) ⟨rfl, ?_, _, hall, ?_⟩⟩
    · show (rows.length + 1) * 40 ≤ mostBytes
      unfold mostBytes; omega
    refine ⟨_, wrap64 (n := (k : Int) + 1) (by omega) (by omega), ?_⟩
    refine ⟨⟨by kernel_rfl, by kernel_rfl⟩, ⟨k + 1, g + 1, _, hk', rfl, by kernel_rfl⟩, ?_⟩
    show ((b.tides.length : Int) - ((k : Int) + 1)).toNat < ((b.tides.length : Int) - (k : Int)).toNat
    omega
  have h2 := of_decide_eq_false h2
  rw [hlen] at h2
  have hkl : k = b.tides.length := by omega
  subst hkl
  obtain ⟨q, hq⟩ : ∃ q, b.tides.length = q + 1 := ⟨b.tides.length - 1, by omega⟩
  obtain rfl : rows = (fineL b s ys d).map Ti.enc := by rw [hrows, List.take_of_length_le (by rw [fineL_len]; exact Nat.le_refl _)]
  have hsk : slopeK b ys d b.tides.length = nearR b.slope (amongR b.slope (turnR ys 0)) d := by rw [hq]; rfl
  have hdk : draftK s ys d b.tides.length = nearR s.draft (amongR s.draft (turnR ys 1)) d := by rw [hq]; rfl
  rw [hsk, hdk]
  refine ⟨_, wrap64 (n := b.marks.lo - d) (by omega) (by omega), ?_⟩
  refine ⟨_, wrap64 (n := b.marks.hi + d) (by omega) (by omega), ?_⟩
  refine ⟨_, rfl, _, den36 _ _, ?_⟩
  have h30 := den30 b s ⟨i, n⟩ pulls
  rw [lies_ok hplan] at h30
  refine ⟨_, rfl, _, h30, ?_⟩
  have h30f := den30 (fineB b s ys d) (fineS s ys d) ⟨i, n⟩ pulls
  rw [lies_ok hfplan] at h30f
  refine ⟨_, (mapO_cons (reify_agg (mapO_cons rfl (mapO_cons rfl (mapO_cons rfl (mapO_cons rfl (mapO_cons rfl (mapO_cons (reify_sl rfl rfl) rfl))))))) rfl), _, h30f, ?_⟩
  have hash : ashoreR b s n = (found b s n b.tides.length, 0) := by
    unfold ashoreR; rw [if_neg (by rw [show (0 : Int) = ((0 : Nat) : Int) from rfl, step_ok hc 0 (by omega) hk0 hk1]; decide)]
  have hashf : ashoreR (fineB b s ys d) (fineS s ys d) n = (found (fineB b s ys d) (fineS s ys d) n (fineB b s ys d).tides.length, 0) := by
    unfold ashoreR; rw [if_neg (by rw [show (0 : Int) = ((0 : Nat) : Int) from rfl, step_ok hfc 0 (by have := hfok.n0; omega) hk0 hk1]; decide)]
  have h20 := den20 b s n
  have h20f := den20 (fineB b s ys d) (fineS s ys d) n
  rw [hash] at h20
  rw [hashf] at h20f
  have hsub : ∀ x ∈ found b s n b.tides.length, x ∈ found (fineB b s ys d) (fineS s ys d) n (fineB b s ys d).tides.length := fun x hx => by
    obtain ⟨j, rfl, hj⟩ := found_nat hx
    have hj' : j < (fineB b s ys d).tides.length := by
      have : (fineB b s ys d).tides.length = b.tides.length := fineL_len b s ys d
      omega
    exact (found_mem hj' _).2 ⟨hj', fine_within hok ys hd0 hj hj' ((found_mem hj _).1 hx).2⟩
  have hll := found_len b s n b.tides.length
  have hml := found_len (fineB b s ys d) (fineS s ys d) n (fineB b s ys d).tides.length
  have hm12 := hfok.n1
  obtain ⟨l, hle⟩ : ∃ l, found b s n b.tides.length = l := ⟨_, rfl⟩
  obtain ⟨m, hme⟩ : ∃ m, found (fineB b s ys d) (fineS s ys d) n (fineB b s ys d).tides.length = m := ⟨_, rfl⟩
  rw [hle] at h20 hll hsub
  rw [hme] at h20f hml hsub
  refine ⟨_, rfl, _, h20, ?_⟩
  refine ⟨_, (mapO_cons (reify_agg (mapO_cons rfl (mapO_cons rfl (mapO_cons rfl (mapO_cons rfl (mapO_cons rfl (mapO_cons (reify_sl rfl rfl) rfl))))))) rfl), _, h20f, ?_⟩
  have hli := fine_lies hok ys hd0 hrun hall
  refine ⟨fun h => absurd (show false = true from h) (by decide), fun _ => ?_⟩
  refine ⟨fun h => absurd (show false = true from h) (by decide), fun _ => ?_⟩
  refine ⟨fun h => absurd (show false = true from h) (by decide), fun _ => ?_⟩
  refine ⟨fun h => absurd (show false = true from h) (by decide), fun _ => ?_⟩
  refine ⟨fun h => absurd (show (liesR (fineB b s ys d) (fineS s ys d) ⟨i, n⟩ pulls).lo < (liesR b s ⟨i, n⟩ pulls).lo from of_decide_eq_true h) (by omega), fun _ => ?_⟩
  refine ⟨fun h => absurd (show (liesR (fineB b s ys d) (fineS s ys d) ⟨i, n⟩ pulls).hi > (liesR b s ⟨i, n⟩ pulls).hi from of_decide_eq_true h) (by omega), fun _ => ?_⟩
  refine ⟨[3, 4, 7, 10, 11, 18, 20, 22], 7, [], fun σ => ∃ (k2 : Nat), k2 ≤ l.length ∧
    σ = ⟨[(3, .loc 0 0), (4, .loc 1 0), (7, .loc 3 0), (10, .loc 4 0), (11, .loc 5 0), (18, intsD l), (20, intsD m), (22, .int .i64 k2)],
      [.flat false b.enc, .flat false s.enc, .flat false [u16s xs, u16s ys, .int .i32 t], .flat false [.int .i64 i, .int .i64 n], .flat false [.int .i64 (fineB b s ys d).slope.lo, .int .i64 (fineB b s ys d).slope.hi, .int .i64 (fineB b s ys d).marks.lo, .int .i64 (fineB b s ys d).marks.hi, .int .i64 (fineB b s ys d).bite, .sl 6 g 0 ((fineL b s ys d).map Ti.enc).length], .flat false (fineS s ys d).enc, .rows true g 5 ((fineL b s ys d).map Ti.enc)], .non⟩,
    fun σ => ((l.length : Int) - slotI 22 σ).toNat, by kernel_rfl, ⟨by kernel_rfl, by kernel_rfl⟩, ⟨0, Nat.zero_le _, by kernel_rfl⟩, ?_⟩
  rintro σ ⟨k2, hk2, rfl⟩
  refine ⟨fun h3 => ?_, fun h3 => ?_⟩
  · have h3 := of_decide_eq_true h3
    rw [row1_len] at h3
    have hk2' : k2 < l.length := by omega
    refine ⟨[3, 4, 7, 10, 11, 18, 20, 22, 23, 24], 7, [], fun σ => ∃ (j : Nat) (there : Bool) (v : D), j ≤ m.length ∧ there = decide (l[k2] ∈ m.take j) ∧ (v = .bool there ∨ (v = .tt ∧ there = true) ∨ (v = .ff ∧ there = false)) ∧
      σ = ⟨[(3, .loc 0 0), (4, .loc 1 0), (7, .loc 3 0), (10, .loc 4 0), (11, .loc 5 0), (18, intsD l), (20, intsD m), (22, .int .i64 k2), (23, v), (24, .int .i64 j)],
        [.flat false b.enc, .flat false s.enc, .flat false [u16s xs, u16s ys, .int .i32 t], .flat false [.int .i64 i, .int .i64 n], .flat false [.int .i64 (fineB b s ys d).slope.lo, .int .i64 (fineB b s ys d).slope.hi, .int .i64 (fineB b s ys d).marks.lo, .int .i64 (fineB b s ys d).marks.hi, .int .i64 (fineB b s ys d).bite, .sl 6 g 0 ((fineL b s ys d).map Ti.enc).length], .flat false (fineS s ys d).enc, .rows true g 5 ((fineL b s ys d).map Ti.enc)], .non⟩,
      fun σ => ((m.length : Int) - slotI 24 σ).toNat, by kernel_rfl, ⟨by kernel_rfl, by kernel_rfl⟩, ⟨0, false, .ff, Nat.zero_le _, by simp, Or.inr (Or.inr ⟨rfl, rfl⟩), by kernel_rfl⟩, ?_⟩
    rintro σ ⟨j, there, v, hj, hd, hv, rfl⟩
    rcases hv with rfl | ⟨rfl, hdt⟩ | ⟨rfl, hdf⟩
    · refine ⟨fun h4 => ?_, fun h4 => ?_⟩
      · have h4 := of_decide_eq_true h4
        rw [row1_len] at h4
        have hj' : j < m.length := by omega
        
        refine Or.inl ⟨by kernel_rfl, ?_⟩
        refine ⟨fun h5 => ?_, fun h5 => ?_⟩
        · have h5 : there = true := h5
          refine ⟨_, wrap64 (n := (j : Int) + 1) (by omega) (by omega), ?_⟩
          refine ⟨⟨by kernel_rfl, by kernel_rfl⟩, ⟨j + 1, true, _, hj', ?_, ?_, rfl⟩, ?_⟩
          · exact mem_next hj' h5 hd
          · first | exact Or.inr (Or.inl ⟨rfl, rfl⟩) | exact Or.inl rfl
          · show ((m.length : Int) - ((j : Int) + 1)).toNat < ((m.length : Int) - (j : Int)).toNat
            omega
        · have h5 : there = false := h5
          refine ⟨by omega, _, row1_get hj', ?_⟩
          refine ⟨by omega, _, row1_get hk2', ?_⟩
          refine ⟨_, wrap64 (n := (j : Int) + 1) (by omega) (by omega), ?_⟩
          refine ⟨⟨by kernel_rfl, by kernel_rfl⟩, ⟨j + 1, m[j] == l[k2], _, hj', ?_, Or.inl rfl, rfl⟩, ?_⟩
          · exact mem_here hj' h5 hd
          · show ((m.length : Int) - ((j : Int) + 1)).toNat < ((m.length : Int) - (j : Int)).toNat
            omega
      · have h4 := of_decide_eq_false h4
        rw [row1_len] at h4
        have hj' : j = m.length := by omega
        have hd := mem_all hj' hd
        have ht : there = true := hd.trans (decide_eq_true (hsub _ (List.getElem_mem hk2')))
        refine ⟨fun h => absurd (show (!there) = true from h) (by rw [ht]; decide), fun _ => ?_⟩
        refine ⟨_, wrap64 (n := (k2 : Int) + 1) (by omega) (by omega), ?_⟩
        refine ⟨⟨by kernel_rfl, by kernel_rfl⟩, ⟨k2 + 1, hk2', by kernel_rfl⟩, ?_⟩
        show ((l.length : Int) - ((k2 : Int) + 1)).toNat < ((l.length : Int) - (k2 : Int)).toNat
        omega
    · refine ⟨fun h4 => ?_, fun h4 => ?_⟩
      · have h4 := of_decide_eq_true h4
        rw [row1_len] at h4
        have hj' : j < m.length := by omega
        
        refine Or.inl ⟨by kernel_rfl, ?_⟩
        refine ⟨_, wrap64 (n := (j : Int) + 1) (by omega) (by omega), ?_⟩
        refine ⟨⟨by kernel_rfl, by kernel_rfl⟩, ⟨j + 1, true, _, hj', ?_, ?_, rfl⟩, ?_⟩
        · exact mem_next hj' hdt hd
        · first | exact Or.inr (Or.inl ⟨rfl, rfl⟩) | exact Or.inl rfl
        · show ((m.length : Int) - ((j : Int) + 1)).toNat < ((m.length : Int) - (j : Int)).toNat
          omega
      · have h4 := of_decide_eq_false h4
        rw [row1_len] at h4
        have hj' : j = m.length := by omega
        have hd := mem_all hj' hd
        have ht : there = true := hd.trans (decide_eq_true (hsub _ (List.getElem_mem hk2')))
        refine ⟨_, wrap64 (n := (k2 : Int) + 1) (by omega) (by omega), ?_⟩
        refine ⟨⟨by kernel_rfl, by kernel_rfl⟩, ⟨k2 + 1, hk2', by kernel_rfl⟩, ?_⟩
        show ((l.length : Int) - ((k2 : Int) + 1)).toNat < ((l.length : Int) - (k2 : Int)).toNat
        omega
    · refine ⟨fun h4 => ?_, fun h4 => ?_⟩
      · have h4 := of_decide_eq_true h4
        rw [row1_len] at h4
        have hj' : j < m.length := by omega
        
        refine Or.inl ⟨by kernel_rfl, ?_⟩
        refine ⟨by omega, _, row1_get hj', ?_⟩
        refine ⟨by omega, _, row1_get hk2', ?_⟩
        refine ⟨_, wrap64 (n := (j : Int) + 1) (by omega) (by omega), ?_⟩
        refine ⟨⟨by kernel_rfl, by kernel_rfl⟩, ⟨j + 1, m[j] == l[k2], _, hj', ?_, Or.inl rfl, rfl⟩, ?_⟩
        · exact mem_here hj' hdf hd
        · show ((m.length : Int) - ((j : Int) + 1)).toNat < ((m.length : Int) - (j : Int)).toNat
          omega
      · have h4 := of_decide_eq_false h4
        rw [row1_len] at h4
        have hj' : j = m.length := by omega
        have hd := mem_all hj' hd
        have ht : there = true := hd.trans (decide_eq_true (hsub _ (List.getElem_mem hk2')))
        exact absurd (hdf.symm.trans ht) (by decide)
  · obtain ⟨hb1, hb2⟩ := reach_in (fine_box hok ys hd0 hi (fine_pu (s := s) ys d hrun).t1) (by have := hok.slope.1; simp only [boxOf]; omega) s.sink n
    have h18 := den18 b s i n
    rw [stops_ok hc i hi hk0 hk1] at h18
    have h18f := den18 (fineB b s ys d) (fineS s ys d) i n
    rw [stops_ok hfc i (fine_pu (s := s) ys d hrun).t1 hk0 hk1] at h18f
    refine ⟨_, rfl, _, h18, ?_⟩
    refine ⟨_, (mapO_cons (reify_agg (mapO_cons rfl (mapO_cons rfl (mapO_cons rfl (mapO_cons rfl (mapO_cons rfl (mapO_cons (reify_sl rfl rfl) rfl))))))) rfl), _, h18f, ?_⟩
    refine ⟨fun _ => ?_, fun h => absurd (show true = false from h) (by decide)⟩
    refine ⟨fun _ => ?_, fun h => absurd (show true = false from h) (by decide)⟩
    refine ⟨fun _ => ?_, fun h => absurd hb1 (of_decide_eq_false h)⟩
    refine ⟨fun _ => ?_, fun h => absurd hb2 (of_decide_eq_false h)⟩
    refine ⟨_, rfl, _, den23, ?_⟩
    rfl

end Go.Proofs.Tide
