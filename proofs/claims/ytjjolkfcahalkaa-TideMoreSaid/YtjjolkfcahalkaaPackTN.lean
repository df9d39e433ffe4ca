/- More ballast; TideMore: what the law returns. No condition. -/
import Derived.Test.YtjjolkfcahalkaaPackTL

namespace Go.Proofs.Tide
open Go.V Go.Proofs

/-- The same tide, and no less ballast. -/
structure Pu.Ge (p' p : Pu) : Prop where
  tide : p'.tide = p.tide
  ballast : p.ballast ≤ p'.ballast

theorem Pu.Ge.rfl' (p : Pu) : p.Ge p := ⟨rfl, Int.le_refl _⟩

theorem over_ge {b : Be} {s : Sh} (hok : Ok b s) {p p' : Pu} (h : p'.Ge p) (bite : Int) : (overR b s p' bite).lo ≤ (overR b s p bite).lo ∧ (overR b s p' bite).hi ≤ (overR b s p bite).hi := by
  have e : tideAt b p' = tideAt b p := by unfold tideAt; rw [h.tide]
  have h1 : s.sink * p.ballast ≤ s.sink * p'.ballast := Int.mul_le_mul_of_nonneg_left h.ballast hok.sink.1
  simp only [overR, e]
  omega

theorem top_ge {b : Be} {s : Sh} (hok : Ok b s) : ∀ (l l' : List Pu) (o o' : Sp), l'.length = l.length → (∀ (i : Nat) (h : i < l.length) (h' : i < l'.length), l'[i].Ge l[i]) → o'.lo ≤ o.lo → o'.hi ≤ o.hi →
    (l'.foldl (fun o p => maxS o (overR b s p b.bite)) o').lo ≤ (l.foldl (fun o p => maxS o (overR b s p b.bite)) o).lo ∧ (l'.foldl (fun o p => maxS o (overR b s p b.bite)) o').hi ≤ (l.foldl (fun o p => maxS o (overR b s p b.bite)) o).hi
  | [], [], o, o', _, _, h1, h2 => ⟨h1, h2⟩
  | [], _ :: _, _, _, h, _, _, _ => by simp at h
  | _ :: _, [], _, _, h, _, _, _ => by simp at h
  | p :: r, p' :: r', o, o', hl, hg, h1, h2 => by
    have := over_ge hok (hg 0 (by simp) (by simp)) b.bite
    simp only [List.getElem_cons_zero] at this
    simp only [List.foldl_cons]
    refine top_ge hok r r' _ _ (by simpa using hl) (fun i h h' => ?_) (by simp only [maxS]; omega) (by simp only [maxS]; omega)
    have := hg (i + 1) (by simp; omega) (by simp; omega)
    simpa using this

theorem lies_ge {b : Be} {s : Sh} (hok : Ok b s) {run run' : Pu} (hr : run'.Ge run) {l l' : List Pu} (hl : l'.length = l.length) (hg : ∀ (i : Nat) (h : i < l.length) (h' : i < l'.length), l'[i].Ge l[i]) :
    (liesR b s run' l').lo ≤ (liesR b s run l).lo ∧ (liesR b s run' l').hi ≤ (liesR b s run l).hi := by
  have hs := hok.slope
  unfold Sp.In at hs
  have h0 := over_ge hok hr 0
  have h := top_ge hok l l' _ _ hl hg h0.1 h0.2
  exact lies_of_top (by omega) (by omega) h.1 h.2

theorem reach_ge {k n n' : Int} (hk : 0 ≤ k) (hn : n ≤ n') {x : Bx} (h1 : 0 < x.slope.lo) (h2 : 0 < x.slope.hi) : (reachR k x n' 0).lo ≤ (reachR k x n 0).lo ∧ (reachR k x n' 0).hi ≤ (reachR k x n 0).hi := by
  have h := Int.mul_le_mul_of_nonneg_left hn hk
  have q1 : 1000 * (x.height.lo + x.wind.lo + 0 - x.draft.hi - k * n') / x.slope.lo ≤ 1000 * (x.height.lo + x.wind.lo + 0 - x.draft.hi - k * n) / x.slope.lo := Int.ediv_le_ediv h1 (by omega)
  have q2 : 1000 * (x.height.lo + x.wind.lo + 0 - x.draft.hi - k * n') / x.slope.hi ≤ 1000 * (x.height.lo + x.wind.lo + 0 - x.draft.hi - k * n) / x.slope.hi := Int.ediv_le_ediv h2 (by omega)
  have q3 : 1000 * (x.height.hi + x.wind.hi + 0 - x.draft.lo - k * n') / x.slope.lo ≤ 1000 * (x.height.hi + x.wind.hi + 0 - x.draft.lo - k * n) / x.slope.lo := Int.ediv_le_ediv h1 (by omega)
  have q4 : 1000 * (x.height.hi + x.wind.hi + 0 - x.draft.lo - k * n') / x.slope.hi ≤ 1000 * (x.height.hi + x.wind.hi + 0 - x.draft.lo - k * n) / x.slope.hi := Int.ediv_le_ediv h2 (by omega)
  simp only [reachR, atR]
  omega

theorem reach_light (x : Bx) (n n' : Int) : reachR 0 x n' 0 = reachR 0 x n 0 := by simp [reachR, atR]

theorem pullsE_set {b : Be} {n' : Int} (h0 : 0 ≤ n') (h1 : n' ≤ 40) : ∀ {l : List Pu} {last : Int} {k : Nat} (hk : k < l.length), pullsE b last l = 0 → pullsE b last (l.set k ⟨l[k].tide, n'⟩) = 0
  | p :: r, last, 0, _, h => by
    simp only [pullsE] at h
    split at h
    · rename_i h2; exact absurd h h2
    · rename_i h2
      have h2 : errTB b p.tide p.ballast = 0 := Classical.byContradiction h2
      split at h
      · exact absurd h (by decide)
      · rename_i h3
        have h4 : errTB b p.tide n' = 0 := by
          obtain ⟨a1, a2, _, _⟩ := errTB_zero h2
          unfold errTB
          rw [if_neg (by omega), if_neg (by omega)]
        simp only [List.set_cons_zero, List.getElem_cons_zero, pullsE]
        rw [if_neg (by rw [h4]; decide), if_neg h3]
        exact h
  | p :: r, last, k + 1, hk, h => by
    simp only [pullsE] at h
    split at h
    · rename_i h2; exact absurd h h2
    · rename_i h2
      split at h
      · exact absurd h (by decide)
      · rename_i h3
        simp only [List.set_cons_succ, List.getElem_cons_succ, pullsE]
        rw [if_neg h2, if_neg h3]
        exact pullsE_set h0 h1 (by simpa using hk) h

theorem plan_run {b : Be} {s : Sh} {run : Pu} {pulls : List Pu} {n' : Int} (h0 : 0 ≤ n') (h1 : n' ≤ 40) (h : planE b s run pulls = 0) : planE b s ⟨run.tide, n'⟩ pulls = 0 := by
  obtain ⟨hok, hr, h6, _⟩ := planE_zero h
  have a0 := hr.t0
  have a1 := hr.t1
  have hc := check_ok hok
  have hst : stepE b s run.tide n' = 0 := by
    unfold stepE errTB
    rw [if_neg (by omega), if_neg (by omega), if_neg (by omega)]
  unfold planE at h ⊢
  split at h
  · rename_i h2; exact absurd h h2
  · split at h
    · exact absurd h (by decide)
    · rename_i h3
      simp only
      rw [if_neg (by omega), if_neg h3]
      exact h

theorem plan_set {b : Be} {s : Sh} {run : Pu} {pulls : List Pu} {n' : Int} (h0 : 0 ≤ n') (h1 : n' ≤ 40) {k : Nat} (hk : k < pulls.length) (h : planE b s run pulls = 0) : planE b s run (pulls.set k ⟨pulls[k].tide, n'⟩) = 0 := by
  unfold planE at h ⊢
  split at h
  · rename_i h2; exact absurd h h2
  · rename_i h2
    split at h
    · exact absurd h (by decide)
    · rename_i h3
      rw [if_neg h2, if_neg (by rw [List.length_set]; exact h3)]
      exact pullsE_set h0 h1 hk h

theorem set_ge {pulls : List Pu} {k : Nat} (hk : k < pulls.length) {n' : Int} (hn : pulls[k].ballast ≤ n') : ∀ (i : Nat) (h : i < pulls.length) (h' : i < (pulls.set k ⟨pulls[k].tide, n'⟩).length), (pulls.set k ⟨pulls[k].tide, n'⟩)[i].Ge pulls[i] := by
  intro i h h'
  rw [List.getElem_set]
  split
  · rename_i e; subst e; exact ⟨rfl, hn⟩
  · exact Pu.Ge.rfl' _

end Go.Proofs.Tide

namespace Go.Proofs.Tide
open Go.V Go.Proofs

set_option maxRecDepth 100000 in
set_option maxHeartbeats 4000000 in
theorem den13 (b : Be) (s : Sh) (xs : List Int) (x : Nat) (y : Int) (hxl : xs.length ≤ 9223372036854775807) (hxs : ∀ x ∈ xs, 0 ≤ x ∧ x ≤ 65535) (hx1 : x ≤ 255) (hy0 : 0 ≤ y) (hy1 : y ≤ 255) :
    DN 13 [.agg b.enc, .agg s.enc, .agg [u16s xs, .int .u8 x, .int .u8 y]] (.bool true) := by
  refine mk Try.func13 Try.call13 rfl rfl ?_
  refine ⟨_, rfl, _, den37 b s, ?_⟩
  refine ⟨fun h1 => ?_, fun h1 => ?_⟩
  · refine ⟨_, rfl, _, den23, ?_⟩
    rfl
  have h1 : (!((checkR b s).2.2 == 0)) = false := h1
  have h1 : ((checkR b s).2.2 == 0) = true := by simpa using h1
  have hc : (checkR b s).2.2 = 0 := by simpa using h1
  have hok := valid_ok h1
  have hn0 := hok.n0
  have hn12 := hok.n1
  have hs1 := hok.slope
  unfold Sp.In at hs1
  have hlok : Ok b ⟨s.draft, 0⟩ := ⟨hok.n0, hok.n1, hok.slope, hok.marks, hok.bite, hok.draft, ⟨Int.le_refl 0, show (0 : Int) ≤ 50 by decide⟩, hok.day, hok.height, hok.wind, hok.order⟩
  have hlc := check_ok hlok
  have h42 := den42 b s hok xs hxs hxl
  have hrun := run_ok hok hxs
  have hplan := plan_ok hc hxs
  obtain ⟨run, hre⟩ : ∃ run, runR b xs = run := ⟨_, rfl⟩
  obtain ⟨pulls, hpe⟩ : ∃ pulls, pullsR b xs = pulls := ⟨_, rfl⟩
  rw [hre, hpe] at h42 hplan
  rw [hre] at hrun
  obtain ⟨rt, n⟩ := run
  obtain ⟨i, rfl⟩ : ∃ i : Nat, rt = i := ⟨rt.toNat, by have := hrun.t0; simp only at this; omega⟩
  have hi : i < b.tides.length := hrun.t1
  have hk0 : 0 ≤ n := hrun.n0
  have hk1 : n ≤ 40 := hrun.n1
  obtain ⟨_, _, hp6, hall⟩ := planE_zero hplan
  have hpl : ((pulls.map Pu.enc).length : Int) = pulls.length := by rw [List.length_map]
  have h30 := den30 b s ⟨i, n⟩ pulls
  rw [lies_ok hplan] at h30
  refine ⟨_, rfl, _, h42, ?_⟩
  refine Or.inr ⟨5, [], by kernel_rfl, ?_⟩
  refine ⟨trivial, ?_, ?_⟩
  · show (pulls.map Pu.enc).length * 16 ≤ mostBytes
    rw [List.length_map]; unfold mostBytes; omega
  refine ⟨trivial, ?_⟩
  refine ⟨trivial, ?_⟩
  refine ⟨_, wrap64 (n := x) (by omega) (by omega), ?_⟩
  refine ⟨_, (wrap64 (n := ((pulls.map Pu.enc).length : Int) + 1) (by omega) (by omega)).trans (show _ = ((pulls.length + 1 : Nat) : Int) by omega), ?_⟩
  have hkm : ((x : Nat) : Int).tmod ((pulls.length + 1 : Nat) : Int) = ((x % (pulls.length + 1) : Nat) : Int) := rfl
  have hk : x % (pulls.length + 1) < pulls.length + 1 := Nat.mod_lt _ (by omega)
  obtain ⟨k, hke⟩ : ∃ k, x % (pulls.length + 1) = k := ⟨_, rfl⟩
  rw [hke] at hkm hk
  refine ⟨by omega, _, hkm, ?_⟩
  refine ⟨fun h2 => ?_, fun h2 => ?_⟩
  · have hnb : n ≤ min 40 (n + y) ∧ min 40 (n + y) ≤ 40 := by omega
    refine ⟨_, wrap64 (n := y) (by omega) (by omega), ?_⟩
    refine ⟨_, wrap64 (n := n + y) (by omega) (by omega), ?_⟩
    have h30x := den30 b s ⟨i, min 40 (n + y)⟩ pulls
    rw [lies_ok (plan_run (run := ⟨i, n⟩) (by omega) (by omega) hplan)] at h30x
    refine ⟨_, rfl, _, h30, ?_⟩
    have hli := lies_ge hok (run := ⟨i, n⟩) (run' := ⟨i, min 40 (n + y)⟩) ⟨rfl, by simp only; omega⟩ (l := pulls) rfl (fun j _ _ => Pu.Ge.rfl' _)
    have h30m := h30x
    refine ⟨_, mapO_cons rfl (mapO_cons rfl (mapO_cons rfl (mapO_cons (reify_sl rfl rfl) rfl))), _, h30m, ?_⟩
    have h18 := den18 b s i n
    rw [stops_ok hc i hi hk0 hk1] at h18
    have h18m := den18 b s i (min 40 (n + y))
    rw [stops_ok hc i hi (by omega) (by omega)] at h18m
    have h18l := den18 b ⟨s.draft, 0⟩ i n
    rw [stops_ok hlc i hi hk0 hk1] at h18l
    have h18lm := den18 b ⟨s.draft, 0⟩ i (min 40 (n + y))
    rw [stops_ok hlc i hi (by omega) (by omega), reach_light _ n] at h18lm
    obtain ⟨hg1, hg2⟩ := reach_ge hok.sink.1 (show n ≤ (min 40 (n + y)) by omega) (x := boxOf b s b.tides[i]) (by simp only [boxOf]; omega) (by simp only [boxOf]; omega)
    refine ⟨_, rfl, _, h18l, ?_⟩
    refine ⟨_, rfl, _, h18lm, ?_⟩
    refine ⟨_, rfl, _, h18, ?_⟩
    refine ⟨_, rfl, _, h18m, ?_⟩
    refine ⟨fun _ => ?_, fun h => absurd (show true = false from h) (by decide)⟩
    refine ⟨fun _ => ?_, fun h => absurd (show true = false from h) (by decide)⟩
    refine ⟨fun _ => ?_, fun h => absurd (show true = false from h) (by decide)⟩
    refine ⟨fun _ => ?_, fun h => absurd (show true = false from h) (by decide)⟩
    refine ⟨fun _ => ?_, fun h => absurd (show true = false from h) (by decide)⟩
    refine ⟨fun _ => ?_, fun h => absurd (show true = false from h) (by decide)⟩
    refine ⟨fun _ => ?_, fun h => absurd hli.1 (of_decide_eq_false h)⟩
    refine ⟨fun _ => ?_, fun h => absurd hli.2 (of_decide_eq_false h)⟩
    refine ⟨fun _ => ?_, fun h => absurd (show (((reachR 0 (boxOf b ⟨s.draft, 0⟩ b.tides[i]) n 0).lo == (reachR 0 (boxOf b ⟨s.draft, 0⟩ b.tides[i]) n 0).lo) && (((reachR 0 (boxOf b ⟨s.draft, 0⟩ b.tides[i]) n 0).hi == (reachR 0 (boxOf b ⟨s.draft, 0⟩ b.tides[i]) n 0).hi) && true)) = false from h) (by simp)⟩
    refine ⟨fun _ => ?_, fun h => absurd hg1 (of_decide_eq_false h)⟩
    refine ⟨fun _ => ?_, fun h => absurd hg2 (of_decide_eq_false h)⟩
    refine ⟨_, rfl, _, den23, ?_⟩
    rfl
  · have h2 : (((k : Nat) : Int) == 0) = false := h2
    have hkp : 0 < k := by
      rcases Nat.eq_zero_or_pos k with h | h
      · subst h; exact absurd h2 (by decide)
      · exact h
    have hk' : k - 1 < pulls.length := by omega
    have hpk := hall _ (List.getElem_mem hk')
    have hp0 := hpk.n0
    have hp1 := hpk.n1
    obtain ⟨m, hm⟩ : ∃ m, min 40 (pulls[k - 1].ballast + y) = m := ⟨_, rfl⟩
    have hrow : (pulls.map Pu.enc)[k - 1]? = some (pulls[k - 1].enc) := by simp [hk']
    have hset : (pulls.map Pu.enc).set (k - 1) (splice pulls[k - 1].enc 1 [.int .i64 m]) = (pulls.set (k - 1) ⟨pulls[k - 1].tide, m⟩).map Pu.enc := by rw [List.map_set]; rfl
    have hlen' : (pulls.map Pu.enc).length = ((pulls.set (k - 1) ⟨pulls[k - 1].tide, m⟩).map Pu.enc).length := by simp
    refine Or.inl ⟨by kernel_rfl, ?_⟩
    refine ⟨((k - 1 : Nat) : Int), (wrap64 (n := ((k : Nat) : Int) - 1) (by omega) (by omega)).trans (by omega), ?_⟩
    refine ⟨((k - 1 : Nat) : Int), (wrap64 (n := ((k : Nat) : Int) - 1) (by omega) (by omega)).trans (by omega), ?_⟩
    refine ⟨by omega, by rw [hpl]; omega, k - 1, by simp, ?_⟩
    refine ⟨_, hrow, ?_⟩
    refine ⟨_, wrap64 (n := y) (by omega) (by omega), ?_⟩
    refine ⟨_, wrap64 (n := pulls[k - 1].ballast + y) (by omega) (by omega), ?_⟩
    refine ⟨by omega, by rw [hpl]; omega, k - 1, by simp, ?_⟩
    rw [hm]
    refine ⟨_, hrow, Nat.le_refl 2, _, hset, ?_⟩
    have h30x := den30 b s ⟨i, n⟩ (pulls.set (k - 1) ⟨pulls[k - 1].tide, m⟩)
    rw [lies_ok (plan_set (by omega) (by omega) hk' hplan)] at h30x
    refine ⟨_, rfl, _, h30, ?_⟩
    have hli := lies_ge hok (run := ⟨i, n⟩) (run' := ⟨i, n⟩) (Pu.Ge.rfl' _) (l := pulls) (l' := pulls.set (k - 1) ⟨pulls[k - 1].tide, m⟩) (by simp) (set_ge hk' (by omega))
    have h30m := h30x
    refine ⟨_, mapO_cons rfl (mapO_cons rfl (mapO_cons rfl (mapO_cons (reify_sl rfl hlen') rfl))), _, h30m, ?_⟩
    have h18 := den18 b s i n
    rw [stops_ok hc i hi hk0 hk1] at h18
    have h18m := den18 b s i n
    rw [stops_ok hc i hi (by omega) (by omega)] at h18m
    have h18l := den18 b ⟨s.draft, 0⟩ i n
    rw [stops_ok hlc i hi hk0 hk1] at h18l
    have h18lm := den18 b ⟨s.draft, 0⟩ i n
    rw [stops_ok hlc i hi (by omega) (by omega), reach_light _ n] at h18lm
    obtain ⟨hg1, hg2⟩ := reach_ge hok.sink.1 (show n ≤ n by omega) (x := boxOf b s b.tides[i]) (by simp only [boxOf]; omega) (by simp only [boxOf]; omega)
    refine ⟨_, rfl, _, h18l, ?_⟩
    refine ⟨_, rfl, _, h18lm, ?_⟩
    refine ⟨_, rfl, _, h18, ?_⟩
    refine ⟨_, rfl, _, h18m, ?_⟩
    refine ⟨fun _ => ?_, fun h => absurd (show true = false from h) (by decide)⟩
    refine ⟨fun _ => ?_, fun h => absurd (show true = false from h) (by decide)⟩
    refine ⟨fun _ => ?_, fun h => absurd (show true = false from h) (by decide)⟩
    refine ⟨fun _ => ?_, fun h => absurd (show true = false from h) (by decide)⟩
    refine ⟨fun _ => ?_, fun h => absurd (show true = false from h) (by decide)⟩
    refine ⟨fun _ => ?_, fun h => absurd (show true = false from h) (by decide)⟩
    refine ⟨fun _ => ?_, fun h => absurd hli.1 (of_decide_eq_false h)⟩
    refine ⟨fun _ => ?_, fun h => absurd hli.2 (of_decide_eq_false h)⟩
    refine ⟨fun _ => ?_, fun h => absurd (show (((reachR 0 (boxOf b ⟨s.draft, 0⟩ b.tides[i]) n 0).lo == (reachR 0 (boxOf b ⟨s.draft, 0⟩ b.tides[i]) n 0).lo) && (((reachR 0 (boxOf b ⟨s.draft, 0⟩ b.tides[i]) n 0).hi == (reachR 0 (boxOf b ⟨s.draft, 0⟩ b.tides[i]) n 0).hi) && true)) = false from h) (by simp)⟩
    refine ⟨fun _ => ?_, fun h => absurd hg1 (of_decide_eq_false h)⟩
    refine ⟨fun _ => ?_, fun h => absurd hg2 (of_decide_eq_false h)⟩
    refine ⟨_, rfl, _, den23, ?_⟩
    rfl

end Go.Proofs.Tide
