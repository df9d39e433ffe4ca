/- All heights and drafts more by the same number; TideMoved: what the law returns. No condition. -/
import Derived.Test.YtjjolkfcahalkaaPackTL

namespace Go.Proofs.Tide
open Go.V Go.Proofs

def upT (d : Int) (t : Ti) : Ti := ⟨t.day, ⟨t.height.lo + d, t.height.hi + d⟩, t.wind⟩
def upB (b : Be) (d : Int) : Be := ⟨b.slope, b.marks, b.bite, b.tides.map (upT d)⟩
def upS (s : Sh) (d : Int) : Sh := ⟨⟨s.draft.lo + d, s.draft.hi + d⟩, s.sink⟩

theorem upB_len (b : Be) (d : Int) : (upB b d).tides.length = b.tides.length := by simp [upB]

theorem strange_up {bs : List Bd} (h : bs.any Bd.bad = false) : strangeE bs = 0 ∨ strangeE bs = 7 := by
  unfold strangeE
  cases h1 : bs.any Bd.out with
  | true => exact .inr rfl
  | false => rw [h]; exact .inl rfl

theorem badFrom_up {l : List Ti} (h : ∀ i, errAt l i = 0 ∨ errAt l i = 7) : ∀ (n i : Nat), badFrom l n i = none ∨ ∃ j, badFrom l n i = some (j, 7)
  | 0, _ => .inl rfl
  | n + 1, i => by
    simp only [badFrom]
    rcases h i with h1 | h1
    · rw [if_pos h1]; exact badFrom_up h n (i + 1)
    · rw [if_neg (by rw [h1]; decide), h1]; exact .inr ⟨i, rfl⟩

/-- It is valid, or out of range. -/
theorem up_check {b : Be} {s : Sh} (hok : Ok b s) (d : Int) : (checkR (upB b d) (upS s d)).2.2 = 0 ∨ (checkR (upB b d) (upS s d)).2.2 = 7 := by
  obtain ⟨n0, n1, slope, marks, bite, draft, sink, day, height, wind, order⟩ := hok
  unfold Sp.In at slope marks draft
  have e1 : err1 (upB b d) = 0 := strange_of fun x hx => by
    simp only [List.mem_cons, List.not_mem_nil, or_false] at hx
    rcases hx with rfl | rfl | rfl <;> simp only [Sp.bd, upB] <;> omega
  have e3 : err3 (upS s d) = 0 ∨ err3 (upS s d) = 7 := strange_up (by
    rw [List.any_eq_false]
    intro x hx
    simp only [List.mem_cons, List.not_mem_nil, or_false] at hx
    rcases hx with rfl | rfl <;> simp [Sp.bd, upS, Bd.bad] <;> omega)
  have eT : ∀ i, errAt (upB b d).tides i = 0 ∨ errAt (upB b d).tides i = 7 := fun i => by
    unfold errAt
    rcases Nat.lt_or_ge i b.tides.length with hi | hi
    · have hg : (upB b d).tides[i]? = some (upT d b.tides[i]) := by simp [upB, hi]
      rw [hg]
      simp only
      have h1 := height i hi
      have h2 := wind i hi
      unfold Sp.In at h1 h2
      have et : errT (upT d b.tides[i]) = 0 ∨ errT (upT d b.tides[i]) = 7 := strange_up (by
        rw [List.any_eq_false]
        intro x hx
        simp only [List.mem_cons, List.not_mem_nil, or_false] at hx
        rcases hx with rfl | rfl | rfl <;> simp [Sp.bd, upT, Bd.bad] <;> omega)
      rcases et with et | et
      · rw [if_pos et]
        by_cases h0 : 0 < i
        · have := order (i - 1) (by omega)
          have hd : dayAt (upB b d).tides (i - 1) = b.tides[i - 1].day := by simp [dayAt, upB, upT, show i - 1 < b.tides.length by omega]
          rw [if_neg]
          · exact .inl rfl
          rintro ⟨_, h⟩
          rw [hd] at h
          simp only [show i - 1 + 1 = i by omega] at this
          simp only [upT] at h
          omega
        · rw [if_neg (fun h => h0 h.1)]; exact .inl rfl
      · rw [if_neg (by rw [et]; decide)]; exact .inr et
    · have hg : (upB b d).tides[i]? = none := by simp [upB, hi]
      rw [hg]; exact .inl rfl
  have hl := upB_len b d
  unfold checkR
  rw [if_neg (by omega), if_neg (by omega)]
  rcases badFrom_up eT (upB b d).tides.length 0 with h | ⟨j, h⟩
  · rw [h]
    simp only
    rcases e3 with h3 | h3
    · rw [if_neg (by omega)]; exact .inl rfl
    · rw [if_pos (by omega)]; exact .inr h3
  · rw [h]; exact .inr rfl

theorem up_tide {b : Be} {d : Int} {p : Pu} (hp : p.Ok b) : tideAt (upB b d) p = upT d (tideAt b p) := by
  unfold tideAt
  rw [List.getD_eq_getElem?_getD, List.getD_eq_getElem?_getD]
  have : (upB b d).tides[p.tide.toNat]? = (b.tides[p.tide.toNat]?).map (upT d) := by simp [upB]
  rw [this, List.getElem?_eq_getElem hp.t1]; rfl

theorem up_over {b : Be} {s : Sh} {d : Int} {p : Pu} (hp : p.Ok b) (bite : Int) : overR (upB b d) (upS s d) p bite = overR b s p bite := by
  unfold overR
  rw [up_tide hp]
  simp only [upT, upS]
  congr 1 <;> omega

theorem up_top {b : Be} {s : Sh} {d : Int} {run : Pu} (hr : run.Ok b) {pulls : List Pu} (hp : ∀ p ∈ pulls, p.Ok b) : topR (upB b d) (upS s d) run pulls = topR b s run pulls := by
  have main : ∀ (l : List Pu) (o : Sp), (∀ p ∈ l, p.Ok b) → l.foldl (fun o p => maxS o (overR (upB b d) (upS s d) p (upB b d).bite)) o = l.foldl (fun o p => maxS o (overR b s p b.bite)) o := by
    intro l
    induction l with
    | nil => intro o _; rfl
    | cons p r ih =>
      intro o hl
      simp only [List.foldl_cons]
      rw [up_over (hl p (by simp))]
      exact ih _ fun q hq => hl q (by simp [hq])
  unfold topR
  rw [up_over hr, main pulls _ hp]

theorem up_lies {b : Be} {s : Sh} {d : Int} {run : Pu} (hr : run.Ok b) {pulls : List Pu} (hp : ∀ p ∈ pulls, p.Ok b) : liesR (upB b d) (upS s d) run pulls = liesR b s run pulls := by
  unfold liesR
  rw [up_top hr hp]
  rfl

theorem up_within (b : Be) (s : Sh) (d n : Int) (t : Ti) : withinR (upB b d) (upS s d).sink (boxOf (upB b d) (upS s d) (upT d t)) n = withinR b s.sink (boxOf b s t) n := by
  unfold withinR
  have e : reachR (upS s d).sink (boxOf (upB b d) (upS s d) (upT d t)) n 0 = reachR s.sink (boxOf b s t) n 0 := by
    simp only [reachR, atR, boxOf, upB, upS, upT]
    rw [show t.height.lo + d + t.wind.lo + 0 - (s.draft.hi + d) - s.sink * n = t.height.lo + t.wind.lo + 0 - s.draft.hi - s.sink * n by omega,
      show t.height.hi + d + t.wind.hi + 0 - (s.draft.lo + d) - s.sink * n = t.height.hi + t.wind.hi + 0 - s.draft.lo - s.sink * n by omega]
  rw [e]
  rfl

theorem up_found (b : Be) (s : Sh) (d n : Int) : ∀ m, found (upB b d) (upS s d) n m = found b s n m
  | 0 => rfl
  | m + 1 => by
    have hg : (upB b d).tides[m]? = (b.tides[m]?).map (upT d) := by simp [upB]
    simp only [found, hg]
    cases b.tides[m]? with
    | none => exact up_found b s d n m
    | some t =>
      simp only [Option.map_some]
      rw [up_within, up_found b s d n m]

end Go.Proofs.Tide

namespace Go.Proofs.Tide
open Go.V Go.Proofs

theorem neq_self {x : Int} (h : (x != x) = true) : False := by simp at h

set_option maxRecDepth 100000 in
set_option maxHeartbeats 4000000 in
theorem den15 (b : Be) (s : Sh) (xs : List Int) (x : Nat) (y : Int) (hxl : xs.length ≤ 9223372036854775807) (hxs : ∀ x ∈ xs, 0 ≤ x ∧ x ≤ 65535) (hx1 : x ≤ 255) (hy0 : 0 ≤ y) (hy1 : y ≤ 255) :
    DN 15 [.agg b.enc, .agg s.enc, .agg [u16s xs, .int .u8 x, .int .u8 y]] (.bool true) := by
  refine mk Try.func15 Try.call15 rfl rfl ?_
  refine ⟨_, rfl, _, den37 b s, ?_⟩
  refine ⟨fun h1 => ?_, fun h1 => ?_⟩
  · refine ⟨_, rfl, _, den23, ?_⟩
    rfl
  have h1 : (!((checkR b s).2.2 == 0)) = false := h1
  have h1 : ((checkR b s).2.2 == 0) = true := by simpa using h1
  have hc : (checkR b s).2.2 = 0 := by simpa using h1
  have hok := valid_ok h1
  have hn0 := hok.n0
  have hn12 := hok.n1
  have hlen : ((b.tides.map Ti.enc).length : Int) = b.tides.length := by rw [List.length_map]
  have h42 := den42 b s hok xs hxs hxl
  have hrun := run_ok hok hxs
  have hplan := plan_ok hc hxs
  obtain ⟨run, hre⟩ : ∃ run, runR b xs = run := ⟨_, rfl⟩
  obtain ⟨pulls, hpe⟩ : ∃ pulls, pullsR b xs = pulls := ⟨_, rfl⟩
  rw [hre, hpe] at h42 hplan
  rw [hre] at hrun
  obtain ⟨rt, n⟩ := run
  obtain ⟨i, rfl⟩ : ∃ i : Nat, rt = i := ⟨rt.toNat, by have := hrun.t0; simp only at this; omega⟩
  have hi : i < b.tides.length := hrun.t1
  have hk0 : 0 ≤ n := hrun.n0
  have hk1 : n ≤ 40 := hrun.n1
  obtain ⟨_, _, hp6, hall⟩ := planE_zero hplan
  have hs2 := hok.draft
  unfold Sp.In at hs2
  obtain ⟨d, hd, hd0, hd1⟩ : ∃ d, 5 * y = d ∧ 0 ≤ d ∧ d ≤ 1275 := ⟨5 * y, rfl, by omega, by omega⟩
  refine ⟨_, rfl, _, h42, ?_⟩
  refine ⟨_, wrap64 (n := y) (by omega) (by omega), ?_⟩
  refine ⟨_, (wrap64 (n := 5 * y) (by omega) (by omega)).trans hd, ?_⟩
  refine Or.inr ⟨4, [1], by kernel_rfl, ?_⟩
  refine ⟨⟨rfl, trivial⟩, ?_⟩
  refine ⟨⟨rfl, trivial⟩, ?_⟩
  refine ⟨_, wrap64 (n := s.draft.lo + d) (by omega) (by omega), ?_⟩
  refine ⟨_, wrap64 (n := s.draft.hi + d) (by omega) (by omega), ?_⟩
  refine ⟨_, rfl, _, den36 _ _, ?_⟩
  refine ⟨[3, 4, 7, 8, 9, 10, 11, 12], 6, [(.cell 4 5, 5)], fun σ => ∃ (k g : Nat) (rows : List (List D)), k ≤ b.tides.length ∧ rows = ((upB b d).tides.take k).map Ti.enc ∧
    σ = ⟨[(3, .loc 0 0), (4, .loc 1 0), (7, .loc 3 0), (8, pullsD pulls), (9, .int .i64 d), (10, .loc 4 0), (11, .loc 5 0), (12, .int .i64 k)],
      [.flat false b.enc, .flat false s.enc, .flat false [u16s xs, .int .u8 x, .int .u8 y], .flat false [.int .i64 i, .int .i64 n],
        .flat false [.int .i64 b.slope.lo, .int .i64 b.slope.hi, .int .i64 b.marks.lo, .int .i64 b.marks.hi, .int .i64 b.bite, .sl 6 g 0 rows.length], .flat false (upS s d).enc, .rows false g 5 rows], .non⟩,
    fun σ => ((b.tides.length : Int) - slotI 12 σ).toNat, by kernel_rfl, ⟨by kernel_rfl, by kernel_rfl⟩, ⟨0, 0, [], Nat.zero_le _, rfl, by kernel_rfl⟩, ?_⟩
  rintro σ ⟨k, g, rows, hk, hrows, rfl⟩
  have hrl : rows.length = k := by rw [hrows, List.length_map, List.length_take, upB_len]; omega
  refine ⟨fun h2 => ?_, fun h2 => ?_⟩
  · have h2 := of_decide_eq_true h2
    rw [hlen] at h2
    have hk' : k < b.tides.length := by omega
    have hrow : (b.tides.map Ti.enc)[((k : Int)).toNat]? = some (b.tides[k].enc) := by simp [hk']
    have hh := hok.height k hk'
    unfold Sp.In at hh
    refine ⟨by omega, _, hrow, ?_⟩
    refine ⟨_, wrap64 (n := b.tides[k].height.lo + d) (by omega) (by omega), ?_⟩
    refine ⟨_, wrap64 (n := b.tides[k].height.hi + d) (by omega) (by omega), ?_⟩
    refine ⟨_, rfl, _, den36 _ _, ?_⟩
    have hall' : rows ++ [(upT d b.tides[k]).enc] = ((upB b d).tides.take (k + 1)).map Ti.enc := by
      have hkl : k < (upB b d).tides.length := by rw [upB_len]; exact hk'
      rw [hrows, List.take_succ_eq_append_getElem hkl, List.map_append]; simp [upB]
    refine ⟨trivial, iff' (by rw [beq_self]; rfl) ⟨rfl, ?_, _, hall', ?_⟩⟩
    · show (rows.length + 1) * 40 ≤ mostBytes
      unfold mostBytes; omega
    refine ⟨_, wrap64 (n := (k : Int) + 1) (by omega) (by omega), ?_⟩
    refine ⟨⟨by kernel_rfl, by kernel_rfl⟩, ⟨k + 1, g + 1, _, hk', rfl, by kernel_rfl⟩, ?_⟩
    show ((b.tides.length : Int) - ((k : Int) + 1)).toNat < ((b.tides.length : Int) - (k : Int)).toNat
    omega
  have h2 := of_decide_eq_false h2
  rw [hlen] at h2
  have hkl : k = b.tides.length := by omega
  subst hkl
  obtain rfl : rows = (upB b d).tides.map Ti.enc := by rw [hrows, List.take_of_length_le (by rw [upB_len]; exact Nat.le_refl _)]
  refine ⟨_, (mapO_cons (reify_agg (mapO_cons rfl (mapO_cons rfl (mapO_cons rfl (mapO_cons rfl (mapO_cons rfl (mapO_cons (reify_sl rfl rfl) rfl))))))) rfl), _, den37 (upB b d) (upS s d), ?_⟩
  refine ⟨fun h3 => ?_, fun h3 => ?_⟩
  · have h3 : (!((checkR (upB b d) (upS s d)).2.2 == 0)) = true := h3
    have hbad : (checkR (upB b d) (upS s d)).2.2 = 7 := by
      rcases up_check hok d with h | h
      · rw [h] at h3; exact absurd h3 (by decide)
      · exact h
    have hst : stepE (upB b d) (upS s d) i n = 7 := by
      unfold stepE; rw [if_pos (by rw [hbad]; decide)]; exact hbad
    have hl : liesR2 (upB b d) (upS s d) ⟨i, n⟩ pulls = (⟨0, 0⟩, 7) := by
      have hp : planE (upB b d) (upS s d) ⟨i, n⟩ pulls = 7 := by
        unfold planE; rw [if_pos (by show stepE (upB b d) (upS s d) i n ≠ 0; rw [hst]; decide)]; exact hst
      unfold liesR2; rw [hp, if_pos (by decide)]
    have h30 := den30 (upB b d) (upS s d) ⟨i, n⟩ pulls
    rw [hl] at h30
    refine ⟨_, (mapO_cons (reify_agg (mapO_cons rfl (mapO_cons rfl (mapO_cons rfl (mapO_cons rfl (mapO_cons rfl (mapO_cons (reify_sl rfl rfl) rfl))))))) rfl), _, h30, ?_⟩
    refine ⟨fun _ => ?_, fun h => absurd (show true = false from h) (by decide)⟩
    refine ⟨_, rfl, _, den23, ?_⟩
    rfl
  have h3 : (!((checkR (upB b d) (upS s d)).2.2 == 0)) = false := h3
  have h3 : ((checkR (upB b d) (upS s d)).2.2 == 0) = true := by simpa using h3
  have huc : (checkR (upB b d) (upS s d)).2.2 = 0 := by simpa using h3
  have huok := valid_ok h3
  have h30 := den30 b s ⟨i, n⟩ pulls
  rw [lies_ok hplan] at h30
  have h30u := den30 (upB b d) (upS s d) ⟨i, n⟩ pulls
  rw [lies_ok (plan_congr (upB_len b d) huc hplan), up_lies hrun hall] at h30u
  have hash : ashoreR b s n = (found b s n b.tides.length, 0) := by
    unfold ashoreR; rw [if_neg (by rw [show (0 : Int) = ((0 : Nat) : Int) from rfl, step_ok hc 0 (by omega) hk0 hk1]; decide)]
  have hashu : ashoreR (upB b d) (upS s d) n = (found b s n b.tides.length, 0) := by
    unfold ashoreR; rw [if_neg (by rw [show (0 : Int) = ((0 : Nat) : Int) from rfl, step_ok huc 0 (by have := huok.n0; omega) hk0 hk1]; decide), up_found, upB_len]
  have h20 := den20 b s n
  have h20u := den20 (upB b d) (upS s d) n
  rw [hash] at h20
  rw [hashu] at h20u
  have hll := found_len b s n b.tides.length
  obtain ⟨l, hle⟩ : ∃ l, found b s n b.tides.length = l := ⟨_, rfl⟩
  obtain ⟨z, hz⟩ : ∃ z, liesR b s ⟨i, n⟩ pulls = z := ⟨_, rfl⟩
  rw [hle] at h20 h20u hll
  rw [hz] at h30 h30u
  refine ⟨_, rfl, _, h30, ?_⟩
  refine ⟨_, (mapO_cons (reify_agg (mapO_cons rfl (mapO_cons rfl (mapO_cons rfl (mapO_cons rfl (mapO_cons rfl (mapO_cons (reify_sl rfl rfl) rfl))))))) rfl), _, h30u, ?_⟩
  refine ⟨_, rfl, _, h20, ?_⟩
  refine ⟨_, (mapO_cons (reify_agg (mapO_cons rfl (mapO_cons rfl (mapO_cons rfl (mapO_cons rfl (mapO_cons rfl (mapO_cons (reify_sl rfl rfl) rfl))))))) rfl), _, h20u, ?_⟩
  refine ⟨fun h => absurd (show false = true from h) (by decide), fun _ => ?_⟩
  refine ⟨fun h => absurd (show false = true from h) (by decide), fun _ => ?_⟩
  refine ⟨fun h => absurd (show false = true from h) (by decide), fun _ => ?_⟩
  refine ⟨fun h => absurd (show false = true from h) (by decide), fun _ => ?_⟩
  refine ⟨fun h => absurd (show (!((z.lo == z.lo) && ((z.hi == z.hi) && true))) = true from h) (by simp), fun _ => ?_⟩
  refine ⟨fun h => (neq_self h).elim, fun _ => ?_⟩
  refine ⟨[20, 22, 24], 0, [], fun σ => ∃ (k2 : Nat), k2 ≤ l.length ∧ σ = ⟨[(20, intsD l), (22, intsD l), (24, .int .i64 k2)], [], .non⟩,
    fun σ => ((l.length : Int) - slotI 24 σ).toNat, by kernel_rfl, ⟨by kernel_rfl, by kernel_rfl⟩, ⟨0, Nat.zero_le _, by kernel_rfl⟩, ?_⟩
  rintro σ ⟨k2, hk2, rfl⟩
  refine ⟨fun h4 => ?_, fun h4 => ?_⟩
  · have h4 := of_decide_eq_true h4
    rw [row1_len] at h4
    have hk2' : k2 < l.length := by omega
    refine Or.inl ⟨by kernel_rfl, ?_⟩
    refine ⟨by omega, _, row1_get hk2', ?_⟩
    refine ⟨by omega, _, row1_get hk2', ?_⟩
    refine ⟨fun h => (neq_self h).elim, fun _ => ?_⟩
    refine ⟨_, wrap64 (n := (k2 : Int) + 1) (by omega) (by omega), ?_⟩
    refine ⟨⟨by kernel_rfl, by kernel_rfl⟩, ⟨k2 + 1, hk2', by kernel_rfl⟩, ?_⟩
    show ((l.length : Int) - ((k2 : Int) + 1)).toNat < ((l.length : Int) - (k2 : Int)).toNat
    omega
  · refine ⟨_, rfl, _, den23, ?_⟩
    rfl

end Go.Proofs.Tide
