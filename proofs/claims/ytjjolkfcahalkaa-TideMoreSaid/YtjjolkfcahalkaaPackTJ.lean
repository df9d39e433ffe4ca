/- Each truth of a tide stops within Stops; ashore: within the marks; else Misses names one that is not; TideTrue: what the law returns; TideLeast: what the law returns; TideFirst: what the law returns. No condition. -/
import Derived.Test.YtjjolkfcahalkaaPackTI

namespace Go.Proofs.Tide
open Go.V Go.Proofs

theorem div_between (N : Int) {a m c : Int} (ha : 0 < a) (h1 : a ≤ m) (h2 : m ≤ c) : min (N / a) (N / c) ≤ N / m ∧ N / m ≤ max (N / a) (N / c) := by
  have hm : 0 < m := by omega
  have hc : 0 < c := by omega
  rcases Int.lt_or_le N 0 with h | h
  · have e1 : N / a ≤ N / m := by
      rw [Int.le_ediv_iff_mul_le hm]
      have h3 : N / a * a ≤ N := Int.ediv_mul_le N (by omega)
      have h4 : N / a ≤ 0 := by
        have : N / a < 0 := Int.ediv_neg_of_neg_of_pos h ha
        omega
      have h5 : N / a * m ≤ N / a * a := Int.mul_le_mul_of_nonpos_left h4 h1
      omega
    have e2 : N / m ≤ N / c := by
      rw [Int.le_ediv_iff_mul_le hc]
      have h3 : N / m * m ≤ N := Int.ediv_mul_le N (by omega)
      have h4 : N / m ≤ 0 := by
        have : N / m < 0 := Int.ediv_neg_of_neg_of_pos h hm
        omega
      have h5 : N / m * c ≤ N / m * m := Int.mul_le_mul_of_nonpos_left h4 h2
      omega
    omega
  · have e1 : N / m ≤ N / a := by
      rw [Int.le_ediv_iff_mul_le ha]
      have h3 : N / m * m ≤ N := Int.ediv_mul_le N (by omega)
      have h4 : 0 ≤ N / m := Int.ediv_nonneg h (by omega)
      have h5 : N / m * a ≤ N / m * m := Int.mul_le_mul_of_nonneg_left h1 h4
      omega
    have e2 : N / c ≤ N / m := by
      rw [Int.le_ediv_iff_mul_le hm]
      have h3 : N / c * c ≤ N := Int.ediv_mul_le N (by omega)
      have h4 : 0 ≤ N / c := Int.ediv_nonneg h (by omega)
      have h5 : N / c * m ≤ N / c * c := Int.mul_le_mul_of_nonneg_left h2 h4
      omega
    omega

/-- A truth of a box. -/
def Tr.Of (t : Tr) (x : Bx) : Prop := (x.slope.lo ≤ t.slope ∧ t.slope ≤ x.slope.hi) ∧ (x.draft.lo ≤ t.draft ∧ t.draft ≤ x.draft.hi) ∧ (x.height.lo ≤ t.height ∧ t.height ≤ x.height.hi) ∧ (x.wind.lo ≤ t.wind ∧ t.wind ≤ x.wind.hi)

theorem at_in {t : Tr} {x : Bx} (h : t.Of x) (hs : 0 < x.slope.lo) (k n : Int) : (reachR k x n 0).lo ≤ atR k t n 0 ∧ atR k t n 0 ≤ (reachR k x n 0).hi := by
  obtain ⟨⟨a1, a2⟩, ⟨b1, b2⟩, ⟨c1, c2⟩, d1, d2⟩ := h
  have h1 := (div_between (1000 * (x.height.lo + x.wind.lo + 0 - x.draft.hi - k * n)) hs a1 a2).1
  have h2 := (div_between (1000 * (x.height.hi + x.wind.hi + 0 - x.draft.lo - k * n)) hs a1 a2).2
  have h3 : 1000 * (x.height.lo + x.wind.lo + 0 - x.draft.hi - k * n) / t.slope ≤ 1000 * (t.height + t.wind + 0 - t.draft - k * n) / t.slope := Int.ediv_le_ediv (by omega) (by omega)
  have h4 : 1000 * (t.height + t.wind + 0 - t.draft - k * n) / t.slope ≤ 1000 * (x.height.hi + x.wind.hi + 0 - x.draft.lo - k * n) / t.slope := Int.ediv_le_ediv (by omega) (by omega)
  exact ⟨Int.le_trans h1 h3, Int.le_trans h4 h2⟩

theorem Ok.truth_of {b : Be} {s : Sh} (hok : Ok b s) (i : Nat) (hi : i < b.tides.length) (xs : List Int) : (truthR b s i xs).Of (boxOf b s b.tides[i]) := by
  have hget : b.tides.getD i ⟨0, ⟨0, 0⟩, ⟨0, 0⟩⟩ = b.tides[i] := by rw [List.getD_eq_getElem?_getD, List.getElem?_eq_getElem hi]; rfl
  unfold truthR
  rw [hget]
  exact ⟨among_in hok.slope.2.1 _, among_in hok.draft.2.1 _, among_in (hok.height i hi).2.1 _, among_in (hok.wind i hi).2.1 _⟩

theorem Ok.of_small {b : Be} {s : Sh} (hok : Ok b s) (i : Nat) (hi : i < b.tides.length) {t : Tr} (h : t.Of (boxOf b s b.tides[i])) : t.Small := by
  have s1 := hok.slope
  have s2 := hok.draft
  have s3 := hok.height i hi
  have s4 := hok.wind i hi
  unfold Sp.In at s1 s2 s3 s4
  obtain ⟨⟨a1, a2⟩, ⟨b1, b2⟩, ⟨c1, c2⟩, d1, d2⟩ := h
  simp only [boxOf] at a1 a2 b1 b2 c1 c2 d1 d2
  refine tr_small ?_ ?_ ?_ ?_ ?_ ?_ ?_ ?_ <;> omega

theorem miss_of {b : Be} {k n : Int} {x : Bx} (h : x.Fine) (hw : withinR b k x n = false) : (missT b k n x).Of x ∧ ¬ (b.marks.lo ≤ atR k (missT b k n x) n 0 ∧ atR k (missT b k n x) n 0 ≤ b.marks.hi) := by
  have c := cuts h hw
  obtain ⟨_, a1, b1, _⟩ := num0_spec c.f0 c.w0
  obtain ⟨_, a2, b2, _⟩ := num1_spec c.f1 c.w1
  obtain ⟨_, a3, b3, _⟩ := num2_spec c.f2 c.w2
  obtain ⟨_, a4, b4, _⟩ := num3_spec c.f3 c.w3
  refine ⟨⟨⟨a1, b1⟩, ⟨a2, b2⟩, ⟨a3, b3⟩, a4, b4⟩, ?_⟩
  have hr : reachR k (cut4 b k n x) n 0 = ⟨min (atR k (missT b k n x) n 0) (atR k (missT b k n x) n 0), max (atR k (missT b k n x) n 0) (atR k (missT b k n x) n 0)⟩ := rfl
  have w4 := within_not.1 c.w4
  rw [hr] at w4
  intro h
  apply w4
  show b.marks.lo ≤ min (atR k (missT b k n x) n 0) (atR k (missT b k n x) n 0) ∧ max (atR k (missT b k n x) n 0) (atR k (missT b k n x) n 0) ≤ b.marks.hi
  omega

theorem found_mem {b : Be} {s : Sh} {n : Int} {i : Nat} (hi : i < b.tides.length) : ∀ m, ((i : Int) ∈ found b s n m) ↔ (i < m ∧ withinR b s.sink (boxOf b s b.tides[i]) n = true)
  | 0 => by simp [found]
  | m + 1 => by
    rcases Nat.lt_or_ge m b.tides.length with hm | hm
    · rw [found_succ hm]
      split
      · rename_i hw
        rw [List.mem_append, found_mem hi m]
        constructor
        · rintro (h | h)
          · exact ⟨by omega, h.2⟩
          · have h : (i : Int) = (m : Int) := by simpa using h
            have h : i = m := by omega
            subst h; exact ⟨by omega, hw⟩
        · rintro ⟨h1, h2⟩
          by_cases h : i = m
          · subst h; right; simp
          · left; exact ⟨by omega, h2⟩
      · rename_i hw
        rw [found_mem hi m]
        constructor
        · rintro ⟨h1, h2⟩; exact ⟨by omega, h2⟩
        · rintro ⟨h1, h2⟩
          have : i ≠ m := by rintro rfl; exact hw h2
          exact ⟨by omega, h2⟩
    · have hf : found b s n (m + 1) = found b s n m := by
        simp only [found, List.getElem?_eq_none hm]
      rw [hf, found_mem hi m]
      constructor
      · rintro ⟨h1, h2⟩; exact ⟨by omega, h2⟩
      · rintro ⟨h1, h2⟩; exact ⟨by omega, h2⟩

end Go.Proofs.Tide

namespace Go.Proofs.Tide
open Go.V Go.Proofs

/-- The tide, the ballast and the truth that a law asks for. -/
def askD (x : Nat) (y : Int) (xs : List Int) : List D := [.int .u8 x, .int .u8 y, u16s xs]

theorem miss_err (b : Be) (s : Sh) (i : Nat) (hi : i < b.tides.length) {n : Int} (h : stepE b s i n = 0) :
    missesR b s i n = if withinR b s.sink (boxOf b s b.tides[i]) n = true then (⟨0, 0, 0, 0⟩, 0, 9) else (missT b s.sink n (boxOf b s b.tides[i]), atR s.sink (missT b s.sink n (boxOf b s b.tides[i])) n 0, 0) := by
  unfold missesR
  rw [if_neg (by omega), show ((i : Int)).toNat = i from rfl, List.getElem?_eq_getElem hi]

theorem step_ok {b : Be} {s : Sh} (hc : (checkR b s).2.2 = 0) (i : Nat) (hi : i < b.tides.length) {n : Int} (h0 : 0 ≤ n) (h1 : n ≤ 40) : stepE b s i n = 0 := by
  unfold stepE errTB
  rw [if_neg (by omega), if_neg (by omega), if_neg (by omega)]

theorem stops_bad {b : Be} {s : Sh} (hc : (checkR b s).2.2 ≠ 0) : (stopsR b s 0 0).2 ≠ 0 := by
  have h1 : stepE b s 0 0 ≠ 0 := by rw [stepE00]; exact hc
  unfold stopsR; rw [if_pos h1]; exact h1

theorem mem_next {l : List Int} {i : Int} {k : Nat} (hk : k < l.length) {does : Bool} (h : does = true) (hd : does = decide (i ∈ l.take k)) : true = decide (i ∈ l.take (k + 1)) := by
  subst h
  have hd := of_decide_eq_true hd.symm
  rw [List.take_succ_eq_append_getElem hk]
  exact (decide_eq_true (List.mem_append_left _ hd)).symm

theorem mem_here {l : List Int} {i : Int} {k : Nat} (hk : k < l.length) {does : Bool} (h : does = false) (hd : does = decide (i ∈ l.take k)) : (l[k] == i) = decide (i ∈ l.take (k + 1)) := by
  subst h
  have hd := of_decide_eq_false hd.symm
  rw [List.take_succ_eq_append_getElem hk, Bool.eq_iff_iff, decide_eq_true_iff, List.mem_append, beq_iff_eq]
  constructor
  · intro e; right; simp [e]
  · rintro (e | e)
    · exact absurd e hd
    · exact (List.mem_singleton.1 e).symm

theorem den40t {n : Int} {s : Sp} (h : s.lo ≤ n ∧ n ≤ s.hi) : DN 40 [.int .i64 n, .agg s.enc] (.bool true) := by
  have h1 : (decide (n ≥ s.lo) && decide (n ≤ s.hi)) = true := by rw [Bool.and_eq_true, decide_eq_true_iff, decide_eq_true_iff]; exact h
  have := den40 n s
  rw [h1] at this; exact this

theorem den40f {n : Int} {s : Sp} (h : ¬ (s.lo ≤ n ∧ n ≤ s.hi)) : DN 40 [.int .i64 n, .agg s.enc] (.bool false) := by
  have h1 : (decide (n ≥ s.lo) && decide (n ≤ s.hi)) = false := by
    rw [← Bool.not_eq_true, Bool.and_eq_true, decide_eq_true_iff, decide_eq_true_iff]; exact h
  have := den40 n s
  rw [h1] at this; exact this

theorem mem_all {l : List Int} {i : Int} {k : Nat} (hk : k = l.length) {does : Bool} (hd : does = decide (i ∈ l.take k)) : does = decide (i ∈ l) := by
  rw [hk, List.take_length] at hd; exact hd

set_option maxRecDepth 100000 in
set_option maxHeartbeats 4000000 in
theorem den8 (b : Be) (s : Sh) (x : Nat) (y : Int) (xs : List Int) (hx1 : x ≤ 255) (hy0 : 0 ≤ y) (hy1 : y ≤ 255) (hxs : ∀ x ∈ xs, 0 ≤ x ∧ x ≤ 65535) (hxl : xs.length ≤ 9223372036854775807) :
    DN 8 [.agg b.enc, .agg s.enc, .agg [.int .u8 x, .int .u8 y, u16s xs]] (.bool true) := by
  refine mk Try.func8 Try.call8 rfl rfl ?_
  refine ⟨_, rfl, _, den37 b s, ?_⟩
  refine ⟨fun h1 => ?_, fun h1 => ?_⟩
  · have h1 : (!((checkR b s).2.2 == 0)) = true := h1
    have hc : (checkR b s).2.2 ≠ 0 := by simpa using h1
    have hb := stops_bad hc
    refine ⟨_, rfl, _, den18 b s 0 0, ?_⟩
    refine ⟨fun h => ?_, fun h => ?_⟩
    · refine ⟨_, rfl, _, den23, ?_⟩
      rfl
    · have h : ((stopsR b s 0 0).2 != 0) = false := h
      exact absurd (by simpa using h) hb
  have h1 : (!((checkR b s).2.2 == 0)) = false := h1
  have h1 : ((checkR b s).2.2 == 0) = true := by simpa using h1
  have hc : (checkR b s).2.2 = 0 := by simpa using h1
  have hok := valid_ok h1
  have hn0 := hok.n0
  have hn12 := hok.n1
  have hlen : ((b.tides.map Ti.enc).length : Int) = b.tides.length := by rw [List.length_map]
  have hmi : ((x : Nat) : Int).tmod ((b.tides.map Ti.enc).length : Int) = ((x % b.tides.length : Nat) : Int) := by rw [hlen]; rfl
  have hi : x % b.tides.length < b.tides.length := Nat.mod_lt _ hn0
  have hmn : y.tmod 41 = y % 41 := Int.tmod_eq_emod_of_nonneg hy0
  have hk0 : 0 ≤ y % 41 := by omega
  have hk1 : y % 41 ≤ 40 := by omega
  have hw := hok.weight hk0 hk1
  revert hi hmi
  generalize x % b.tides.length = i
  intro hmi hi
  revert hmn hk0 hk1 hw
  generalize y % 41 = n
  intro hmn hk0 hk1 hw
  have hstep := step_ok hc i hi hk0 hk1
  have hstep0 := step_ok hc 0 (by omega) hk0 hk1
  have hfine := hok.fine i hi
  have hsl : 0 < (boxOf b s b.tides[i]).slope.lo := by have := hok.slope.1; simp only [boxOf]; omega
  have htr := hok.truth_of i hi xs
  have hts := hok.of_small i hi htr
  have hat := at_in htr hsl s.sink n
  have hash : ashoreR b s n = (found b s n b.tides.length, 0) := by
    unfold ashoreR; rw [if_neg (by rw [show (0 : Int) = ((0 : Nat) : Int) from rfl, hstep0]; decide)]
  have hfl := found_len b s n b.tides.length
  have hmem : ((i : Int) ∈ found b s n b.tides.length) ↔ withinR b s.sink (boxOf b s b.tides[i]) n = true := by rw [found_mem hi]; simp [hi]
  revert hash hfl hmem
  generalize found b s n b.tides.length = l
  intro hash hfl hmem
  refine Or.inl ⟨by kernel_rfl, ?_⟩
  refine ⟨_, wrap64 (n := x) (by omega) (by omega), ?_⟩
  refine ⟨by rw [hlen]; omega, _, hmi, ?_⟩
  refine ⟨_, wrap64 (n := y) (by omega) (by omega), ?_⟩
  refine ⟨by decide, _, hmn, ?_⟩
  have h18 := den18 b s i n
  rw [stops_ok hc i hi hk0 hk1] at h18
  refine ⟨_, rfl, _, h18, ?_⟩
  have h20 := den20 b s n
  rw [hash] at h20
  refine ⟨_, rfl, _, h20, ?_⟩
  have h28 := den28 b s i n
  have hm := miss_err b s i hi hstep
  revert h28 hm
  generalize missesR b s i n = m
  intro h28 hm
  refine ⟨_, rfl, _, h28, ?_⟩
  have h39 := den39 b s hok i hi xs hxs hxl
  revert h39 hat hts htr
  generalize truthR b s i xs = tr
  intro htr hts hat h39
  refine Or.inl ⟨by kernel_rfl, ?_⟩
  refine ⟨_, rfl, _, h39, ?_⟩
  refine ⟨_, rfl, _, den38 s _ hts n hw.1 hw.2, ?_⟩
  refine ⟨fun h => absurd (show false = true from h) (by decide), fun _ => ?_⟩
  refine ⟨fun h => absurd (show false = true from h) (by decide), fun _ => ?_⟩
  refine ⟨_, rfl, _, den40 _ _, ?_⟩
  refine ⟨fun h => ?_, fun _ => ?_⟩
  · have h : (!(decide (atR s.sink tr n 0 ≥ (reachR s.sink (boxOf b s b.tides[i]) n 0).lo) && decide (atR s.sink tr n 0 ≤ (reachR s.sink (boxOf b s b.tides[i]) n 0).hi))) = true := h
    simp at h
    omega
  refine ⟨[3, 4, 9, 10, 13, 15, 16, 17, 18, 19, 20], 5, [], fun σ => ∃ (k : Nat) (does : Bool) (v : D), k ≤ l.length ∧ does = decide ((i : Int) ∈ l.take k) ∧ (v = .bool does ∨ (v = .tt ∧ does = true) ∨ (v = .ff ∧ does = false)) ∧
    σ = ⟨[(3, .loc 0 0), (4, .loc 1 0), (9, .int .i64 i), (10, .int .i64 n), (13, intsD l), (15, .loc 4 0), (16, .int .i64 m.2.1), (17, .int .i64 m.2.2), (18, .int .i64 (atR s.sink tr n 0)), (19, v), (20, .int .i64 k)],
      [.flat false b.enc, .flat false s.enc, .flat false [.int .u8 x, .int .u8 y, u16s xs], .flat false (reachR s.sink (boxOf b s b.tides[i]) n 0).enc, .flat false m.1.enc], .non⟩,
    fun σ => ((l.length : Int) - slotI 20 σ).toNat, by kernel_rfl, ⟨by kernel_rfl, by kernel_rfl⟩, ⟨0, false, .ff, Nat.zero_le _, by simp, Or.inr (Or.inr ⟨rfl, rfl⟩), by kernel_rfl⟩, ?_⟩
  rintro σ ⟨k, does, v, hk, hd, hv, rfl⟩
  rcases hv with rfl | ⟨rfl, hdt⟩ | ⟨rfl, hdf⟩
  · refine ⟨fun h2 => ?_, fun h2 => ?_⟩
    · have h2 := of_decide_eq_true h2
      rw [row1_len] at h2
      have hk' : k < l.length := by omega
      refine ⟨fun h3 => ?_, fun h3 => ?_⟩
      · have h3 : does = true := h3
        refine ⟨_, wrap64 (by omega) (by omega), ?_⟩
        refine ⟨⟨rfl, rfl⟩, ⟨k + 1, true, _, hk', ?_, ?_, rfl⟩, ?_⟩
        · exact mem_next hk' h3 hd
        · first | exact Or.inr (Or.inl ⟨rfl, rfl⟩) | exact Or.inl rfl
        · show ((l.length : Int) - ((k : Int) + 1)).toNat < ((l.length : Int) - (k : Int)).toNat
          omega
      · have h3 : does = false := h3
        refine ⟨by omega, _, row1_get hk', ?_⟩
        refine ⟨_, wrap64 (by omega) (by omega), ?_⟩
        refine ⟨⟨rfl, rfl⟩, ⟨k + 1, l[k] == (i : Int), _, hk', ?_, Or.inl rfl, rfl⟩, ?_⟩
        · exact mem_here hk' h3 hd
        · show ((l.length : Int) - ((k : Int) + 1)).toNat < ((l.length : Int) - (k : Int)).toNat
          omega
    · have h2 := of_decide_eq_false h2
      rw [row1_len] at h2
      have hk' : k = l.length := by omega
      refine ⟨fun h3 => ?_, fun h3 => ?_⟩
      · have h3 : does = true := h3
        have hd := mem_all hk' hd
        have hin : withinR b s.sink (boxOf b s b.tides[i]) n = true := hmem.1 (of_decide_eq_true (hd.symm.trans h3))
        rw [if_pos hin] at hm
        subst hm
        have hw2 := within_iff.1 hin
        refine ⟨_, rfl, _, den40t (s := b.marks) ⟨by omega, by omega⟩, ?_⟩
        refine ⟨fun _ => ?_, fun h => absurd (show true = false from h) (by decide)⟩
        refine ⟨fun _ => ?_, fun h => absurd (show true = false from h) (by decide)⟩
        refine ⟨_, rfl, _, den23, ?_⟩
        rfl
      · have h3 : does = false := h3
        have hd := mem_all hk' hd
        have hin : withinR b s.sink (boxOf b s b.tides[i]) n = false := by
          rw [← Bool.not_eq_true]
          exact fun h => of_decide_eq_false (hd.symm.trans h3) (hmem.2 h)
        rw [if_neg (by rw [hin]; decide)] at hm
        obtain ⟨hof, hnot⟩ := miss_of hfine hin
        have hsm := hok.of_small i hi hof
        have hrow : (b.tides.map Ti.enc)[((i : Int)).toNat]? = some (b.tides[i].enc) := by simp [hi]
        revert hm hof hnot hsm
        generalize (missT b s.sink n (boxOf b s b.tides[i])) = t
        intro hm hof hnot hsm
        subst hm
        refine Or.inl ⟨by kernel_rfl, ?_⟩
        refine ⟨_, rfl, _, den40t (s := b.slope) hof.1, ?_⟩
        refine ⟨fun _ => ?_, fun h => absurd (show true = false from h) (by decide)⟩
        refine ⟨_, rfl, _, den40t (s := s.draft) hof.2.1, ?_⟩
        refine ⟨fun _ => ?_, fun h => absurd (show true = false from h) (by decide)⟩
        refine ⟨by omega, _, hrow, ?_⟩
        refine ⟨_, rfl, _, den40t (s := b.tides[i].height) hof.2.2.1, ?_⟩
        refine ⟨fun _ => ?_, fun h => absurd (show true = false from h) (by decide)⟩
        refine ⟨by omega, _, hrow, ?_⟩
        refine ⟨_, rfl, _, den40t (s := b.tides[i].wind) hof.2.2.2, ?_⟩
        refine ⟨fun _ => ?_, fun h => absurd (show true = false from h) (by decide)⟩
        refine ⟨fun _ => ?_, fun h => absurd (show true = false from h) (by decide)⟩
        refine ⟨_, rfl, _, den38 s _ hsm n hw.1 hw.2, ?_⟩
        refine ⟨fun _ => ?_, fun h => absurd h (by simp)⟩
        refine ⟨_, rfl, _, den40f (s := b.marks) hnot, ?_⟩
        refine ⟨fun _ => ?_, fun h => absurd (show true = false from h) (by decide)⟩
        refine ⟨_, rfl, _, den23, ?_⟩
        rfl
  · refine ⟨fun h2 => ?_, fun h2 => ?_⟩
    · have h2 := of_decide_eq_true h2
      rw [row1_len] at h2
      have hk' : k < l.length := by omega
      refine ⟨_, wrap64 (by omega) (by omega), ?_⟩
      refine ⟨⟨rfl, rfl⟩, ⟨k + 1, true, _, hk', ?_, ?_, rfl⟩, ?_⟩
      · exact mem_next hk' hdt hd
      · first | exact Or.inr (Or.inl ⟨rfl, rfl⟩) | exact Or.inl rfl
      · show ((l.length : Int) - ((k : Int) + 1)).toNat < ((l.length : Int) - (k : Int)).toNat
        omega
    · have h2 := of_decide_eq_false h2
      rw [row1_len] at h2
      have hk' : k = l.length := by omega
      have hd := mem_all hk' hd
      have hin : withinR b s.sink (boxOf b s b.tides[i]) n = true := hmem.1 (of_decide_eq_true (hd.symm.trans hdt))
      rw [if_pos hin] at hm
      subst hm
      have hw2 := within_iff.1 hin
      refine ⟨_, rfl, _, den40t (s := b.marks) ⟨by omega, by omega⟩, ?_⟩
      refine ⟨fun _ => ?_, fun h => absurd (show true = false from h) (by decide)⟩
      refine ⟨fun _ => ?_, fun h => absurd (show true = false from h) (by decide)⟩
      refine ⟨_, rfl, _, den23, ?_⟩
      rfl
  · refine ⟨fun h2 => ?_, fun h2 => ?_⟩
    · have h2 := of_decide_eq_true h2
      rw [row1_len] at h2
      have hk' : k < l.length := by omega
      refine ⟨by omega, _, row1_get hk', ?_⟩
      refine ⟨_, wrap64 (by omega) (by omega), ?_⟩
      refine ⟨⟨rfl, rfl⟩, ⟨k + 1, l[k] == (i : Int), _, hk', ?_, Or.inl rfl, rfl⟩, ?_⟩
      · exact mem_here hk' hdf hd
      · show ((l.length : Int) - ((k : Int) + 1)).toNat < ((l.length : Int) - (k : Int)).toNat
        omega
    · have h2 := of_decide_eq_false h2
      rw [row1_len] at h2
      have hk' : k = l.length := by omega
      have hd := mem_all hk' hd
      have hin : withinR b s.sink (boxOf b s b.tides[i]) n = false := by
        rw [← Bool.not_eq_true]
        exact fun h => of_decide_eq_false (hd.symm.trans hdf) (hmem.2 h)
      rw [if_neg (by rw [hin]; decide)] at hm
      obtain ⟨hof, hnot⟩ := miss_of hfine hin
      have hsm := hok.of_small i hi hof
      have hrow : (b.tides.map Ti.enc)[((i : Int)).toNat]? = some (b.tides[i].enc) := by simp [hi]
      revert hm hof hnot hsm
      generalize (missT b s.sink n (boxOf b s b.tides[i])) = t
      intro hm hof hnot hsm
      subst hm
      refine Or.inl ⟨by kernel_rfl, ?_⟩
      refine ⟨_, rfl, _, den40t (s := b.slope) hof.1, ?_⟩
      refine ⟨fun _ => ?_, fun h => absurd (show true = false from h) (by decide)⟩
      refine ⟨_, rfl, _, den40t (s := s.draft) hof.2.1, ?_⟩
      refine ⟨fun _ => ?_, fun h => absurd (show true = false from h) (by decide)⟩
      refine ⟨by omega, _, hrow, ?_⟩
      refine ⟨_, rfl, _, den40t (s := b.tides[i].height) hof.2.2.1, ?_⟩
      refine ⟨fun _ => ?_, fun h => absurd (show true = false from h) (by decide)⟩
      refine ⟨by omega, _, hrow, ?_⟩
      refine ⟨_, rfl, _, den40t (s := b.tides[i].wind) hof.2.2.2, ?_⟩
      refine ⟨fun _ => ?_, fun h => absurd (show true = false from h) (by decide)⟩
      refine ⟨fun _ => ?_, fun h => absurd (show true = false from h) (by decide)⟩
      refine ⟨_, rfl, _, den38 s _ hsm n hw.1 hw.2, ?_⟩
      refine ⟨fun _ => ?_, fun h => absurd h (by simp)⟩
      refine ⟨_, rfl, _, den40f (s := b.marks) hnot, ?_⟩
      refine ⟨fun _ => ?_, fun h => absurd (show true = false from h) (by decide)⟩
      refine ⟨_, rfl, _, den23, ?_⟩
      rfl

end Go.Proofs.Tide

namespace Go.Proofs.Tide
open Go.V Go.Proofs

theorem leastF_spec (p : Nat → Bool) : ∀ (k n : Nat), (leastF p k n = -1 ∧ ∀ j, n ≤ j → j < n + k → p j = false) ∨ ∃ m : Nat, leastF p k n = (m : Int) ∧ n ≤ m ∧ m < n + k ∧ p m = true ∧ ∀ j, n ≤ j → j < m → p j = false
  | 0, n => .inl ⟨rfl, fun j h1 h2 => by omega⟩
  | k + 1, n => by
    cases hp : p n with
    | true => exact .inr ⟨n, by simp [leastF, hp], Nat.le_refl _, by omega, hp, fun j h1 h2 => by omega⟩
    | false =>
      have e : leastF p (k + 1) n = leastF p k (n + 1) := by simp [leastF, hp]
      rw [e]
      rcases leastF_spec p k (n + 1) with ⟨h1, h2⟩ | ⟨m, h1, h2, h3, h4, h5⟩
      · refine .inl ⟨h1, fun j h3 h4 => ?_⟩
        by_cases h : j = n
        · rw [h]; exact hp
        · exact h2 j (by omega) (by omega)
      · refine .inr ⟨m, h1, by omega, by omega, h4, fun j h6 h7 => ?_⟩
        by_cases h : j = n
        · rw [h]; exact hp
        · exact h5 j (by omega) h7

theorem leastR_spec (b : Be) (s : Sh) (t : Ti) : (leastR b s t = -1 ∧ ∀ n : Int, 0 ≤ n → n ≤ 40 → withinR b s.sink (boxOf b s t) n = false) ∨
    ∃ r : Int, leastR b s t = r ∧ 0 ≤ r ∧ r ≤ 40 ∧ withinR b s.sink (boxOf b s t) r = true ∧ ∀ n : Int, 0 ≤ n → n < r → withinR b s.sink (boxOf b s t) n = false := by
  rcases leastF_spec (fun n => withinR b s.sink (boxOf b s t) n) 41 0 with ⟨h1, h2⟩ | ⟨m, h1, h2, h3, h4, h5⟩
  · refine .inl ⟨h1, fun n h3 h4 => ?_⟩
    have : withinR b s.sink (boxOf b s t) ((n.toNat : Nat) : Int) = false := h2 n.toNat (by omega) (by omega)
    rwa [show ((n.toNat : Nat) : Int) = n by omega] at this
  · refine .inr ⟨m, h1, by omega, by omega, h4, fun n h6 h7 => ?_⟩
    have : withinR b s.sink (boxOf b s t) ((n.toNat : Nat) : Int) = false := h5 n.toNat (by omega) (by omega)
    rwa [show ((n.toNat : Nat) : Int) = n by omega] at this

theorem least_ok {b : Be} {s : Sh} (hc : (checkR b s).2.2 = 0) (i : Nat) (hi : i < b.tides.length) : leastR2 b s i = if leastR b s b.tides[i] < 0 then (0, 9) else (leastR b s b.tides[i], 0) := by
  unfold leastR2
  rw [if_neg (by rw [step_ok hc i hi (by decide) (by decide)]; decide), show ((i : Int)).toNat = i from rfl, List.getElem?_eq_getElem hi]

theorem least_bad {b : Be} {s : Sh} (hc : (checkR b s).2.2 ≠ 0) : (leastR2 b s 0).2 ≠ 0 := by
  have h1 : stepE b s 0 0 ≠ 0 := by rw [stepE00]; exact hc
  unfold leastR2; rw [if_pos h1]; exact h1

set_option maxRecDepth 100000 in
set_option maxHeartbeats 4000000 in
theorem den10 (b : Be) (s : Sh) (x : Nat) (y : Int) (xs : List Int) (hx1 : x ≤ 255) (hy0 : 0 ≤ y) (hy1 : y ≤ 255) (hxs : ∀ x ∈ xs, 0 ≤ x ∧ x ≤ 65535) (hxl : xs.length ≤ 9223372036854775807) :
    DN 10 [.agg b.enc, .agg s.enc, .agg [.int .u8 x, .int .u8 y, u16s xs]] (.bool true) := by
  refine mk Try.func10 Try.call10 rfl rfl ?_
  refine ⟨_, rfl, _, den37 b s, ?_⟩
  refine ⟨fun h1 => ?_, fun h1 => ?_⟩
  · have h1 : (!((checkR b s).2.2 == 0)) = true := h1
    have hc : (checkR b s).2.2 ≠ 0 := by simpa using h1
    have hb := least_bad hc
    refine ⟨_, rfl, _, den24 b s 0, ?_⟩
    refine ⟨fun h => ?_, fun h => ?_⟩
    · refine ⟨_, rfl, _, den23, ?_⟩
      refine (?_ : (_ : Option D) = _)
      rfl
    · have h : ((leastR2 b s 0).2 != 0) = false := h
      exact absurd (by simpa using h) hb
  have h1 : (!((checkR b s).2.2 == 0)) = false := h1
  have h1 : ((checkR b s).2.2 == 0) = true := by simpa using h1
  have hc : (checkR b s).2.2 = 0 := by simpa using h1
  have hok := valid_ok h1
  have hn0 := hok.n0
  have hn12 := hok.n1
  have hlen : ((b.tides.map Ti.enc).length : Int) = b.tides.length := by rw [List.length_map]
  have hmi : ((x : Nat) : Int).tmod ((b.tides.map Ti.enc).length : Int) = ((x % b.tides.length : Nat) : Int) := by rw [hlen]; rfl
  have hi : x % b.tides.length < b.tides.length := Nat.mod_lt _ hn0
  revert hi hmi
  generalize x % b.tides.length = i
  intro hmi hi
  have hfine := hok.fine i hi
  have hsl : 0 < (boxOf b s b.tides[i]).slope.lo := by have := hok.slope.1; simp only [boxOf]; omega
  have htr := hok.truth_of i hi xs
  have hts := hok.of_small i hi htr
  have h24 := den24 b s i
  rw [least_ok hc i hi] at h24
  have h39 := den39 b s hok i hi xs hxs hxl
  have hls := leastR_spec b s b.tides[i]
  revert h24 hls
  generalize leastR b s b.tides[i] = r
  intro h24 hls
  refine ⟨_, wrap64 (n := x) (by omega) (by omega), ?_⟩
  refine ⟨by rw [hlen]; omega, _, hmi, ?_⟩
  rcases hls with ⟨rfl, hnone⟩ | ⟨r', rfl, hr0, hr1, hin, hnone⟩
  · rw [if_pos (by decide)] at h24
    have hnone : ∀ n : Int, 0 ≤ n → n < 41 → withinR b s.sink (boxOf b s b.tides[i]) n = false := fun n h1 h2 => hnone n h1 (by omega)
    refine ⟨_, rfl, _, h24, ?_⟩
    refine ⟨fun h => absurd (show false = true from h) (by decide), fun _ => ?_⟩
    refine ⟨fun h => absurd (show false = true from h) (by decide), fun _ => ?_⟩
    obtain ⟨n, hmn, hn0', hn1'⟩ : ∃ n, y.tmod 41 = n ∧ 0 ≤ n ∧ n < 41 := ⟨y % 41, Int.tmod_eq_emod_of_nonneg hy0, Int.emod_nonneg _ (by omega), Int.emod_lt_of_pos _ (by omega)⟩
    have hwf := hnone n hn0' (by omega)
    have hw2 := hok.weight (n := n) hn0' (by omega)
    have hstep := step_ok hc i hi (n := n) hn0' (by omega)
    refine ⟨_, wrap64 (n := y) (by omega) (by omega), ?_⟩
    refine ⟨by omega, _, hmn, ?_⟩
    have h28 := den28 b s i n
    rw [miss_err b s i hi hstep, if_neg (by rw [hwf]; decide)] at h28
    obtain ⟨hof, hnot⟩ := miss_of hfine hwf
    have hsm := hok.of_small i hi hof
    obtain ⟨t, ht⟩ : ∃ t, missT b s.sink n (boxOf b s b.tides[i]) = t := ⟨_, rfl⟩
    rw [ht] at h28 hof hnot hsm
    refine ⟨_, rfl, _, h28, ?_⟩
    refine ⟨fun h => absurd (show false = true from h) (by decide), fun _ => ?_⟩
    refine ⟨fun _ => ?_, fun h => absurd (show true = false from h) (by decide)⟩
    refine ⟨fun _ => ?_, fun h => absurd (show true = false from h) (by decide)⟩
    refine ⟨_, rfl, _, den38 s _ hsm n hw2.1 hw2.2, ?_⟩
    refine ⟨fun _ => ?_, fun h => absurd h (by simp)⟩
    refine ⟨_, rfl, _, den40f (s := b.marks) hnot, ?_⟩
    refine ⟨fun _ => ?_, fun h => absurd (show true = false from h) (by decide)⟩
    refine ⟨_, rfl, _, den23, ?_⟩
    refine (?_ : (_ : Option D) = _)
    rfl
  · rw [if_neg (by omega)] at h24
    refine ⟨_, rfl, _, h24, ?_⟩
    refine ⟨fun _ => ?_, fun h => absurd (show true = false from h) (by decide)⟩
    have hat := at_in htr hsl s.sink r
    have hw := hok.weight hr0 hr1
    have hwi := within_iff.1 hin
    obtain ⟨tr, htre⟩ : ∃ tr, truthR b s i xs = tr := ⟨_, rfl⟩
    rw [htre] at h39 hat hts htr
    refine Or.inl ⟨by kernel_rfl, ?_⟩
    refine ⟨fun h => absurd (of_decide_eq_true h) (by omega), fun _ => ?_⟩
    refine ⟨fun h => absurd (of_decide_eq_true h) (by omega), fun _ => ?_⟩
    refine ⟨_, rfl, _, h39, ?_⟩
    refine ⟨_, rfl, _, den38 s _ hts r hw.1 hw.2, ?_⟩
    refine ⟨_, rfl, _, den40t (s := b.marks) ⟨by omega, by omega⟩, ?_⟩
    refine ⟨fun h => absurd (show false = true from h) (by decide), fun _ => ?_⟩
    refine ⟨fun h => ?_, fun h => ?_⟩
    · refine ⟨_, rfl, _, den23, ?_⟩
      refine (?_ : (_ : Option D) = _)
      rfl
    have h : (r == 0) = false := h
    have hrn : r ≠ 0 := by simpa using h
    obtain ⟨n, hmn, hn0', hn1'⟩ : ∃ n, y.tmod r = n ∧ 0 ≤ n ∧ n < r := ⟨y % r, Int.tmod_eq_emod_of_nonneg hy0, Int.emod_nonneg _ (by omega), Int.emod_lt_of_pos _ (by omega)⟩
    have hwf := hnone n hn0' (by omega)
    have hw2 := hok.weight (n := n) hn0' (by omega)
    have hstep := step_ok hc i hi (n := n) hn0' (by omega)
    refine ⟨_, wrap64 (n := y) (by omega) (by omega), ?_⟩
    refine ⟨by omega, _, hmn, ?_⟩
    have h28 := den28 b s i n
    rw [miss_err b s i hi hstep, if_neg (by rw [hwf]; decide)] at h28
    obtain ⟨hof, hnot⟩ := miss_of hfine hwf
    have hsm := hok.of_small i hi hof
    obtain ⟨t, ht⟩ : ∃ t, missT b s.sink n (boxOf b s b.tides[i]) = t := ⟨_, rfl⟩
    rw [ht] at h28 hof hnot hsm
    refine ⟨_, rfl, _, h28, ?_⟩
    refine ⟨fun _ => ?_, fun h => absurd (show true = false from h) (by decide)⟩
    refine ⟨fun _ => ?_, fun h => absurd (show true = false from h) (by decide)⟩
    refine ⟨_, rfl, _, den38 s _ hsm n hw2.1 hw2.2, ?_⟩
    refine ⟨fun _ => ?_, fun h => absurd h (by simp)⟩
    refine ⟨_, rfl, _, den40f (s := b.marks) hnot, ?_⟩
    refine ⟨fun _ => ?_, fun h => absurd (show true = false from h) (by decide)⟩
    refine ⟨_, rfl, _, den23, ?_⟩
    refine (?_ : (_ : Option D) = _)
    rfl

end Go.Proofs.Tide

namespace Go.Proofs.Tide
open Go.V Go.Proofs

theorem first_ok {b : Be} {s : Sh} (hc : (checkR b s).2.2 = 0) {day : Int} (h0 : 0 ≤ day) (h1 : day ≤ 40000) : firstR b s day = match firstF b s day b.tides.length 0 with
    | some x => ((x.1 : Int), x.2, 0)
    | none => (0, 0, 9) := by
  unfold firstR
  rw [if_neg (by rw [hc]; decide), if_neg (by omega)]
  rfl

theorem first_bad {b : Be} {s : Sh} (hc : (checkR b s).2.2 ≠ 0) : (firstR b s 0).2.2 ≠ 0 := by
  unfold firstR; rw [if_pos hc]; exact hc

theorem firstF_spec (b : Be) (s : Sh) (day : Int) : ∀ (k i : Nat), i + k = b.tides.length → (firstF b s day k i = none ∧ ∀ (j : Nat) (h : j < b.tides.length), i ≤ j → b.tides[j].day ≥ day → leastR b s b.tides[j] < 0) ∨
    ∃ (m : Nat), ∃ (h : m < b.tides.length), firstF b s day k i = some (m, leastR b s b.tides[m]) ∧ b.tides[m].day ≥ day ∧ leastR b s b.tides[m] ≥ 0 ∧ ∀ (j : Nat) (h : j < b.tides.length), i ≤ j → j < m → b.tides[j].day ≥ day → leastR b s b.tides[j] < 0
  | 0, i, h => .inl ⟨rfl, fun j hj h1 _ => by omega⟩
  | k + 1, i, h => by
    have hi : i < b.tides.length := by omega
    have e : firstF b s day (k + 1) i = if b.tides[i].day ≥ day ∧ leastR b s b.tides[i] ≥ 0 then some (i, leastR b s b.tides[i]) else firstF b s day k (i + 1) := by
      simp only [firstF, List.getElem?_eq_getElem hi]
    by_cases hp : b.tides[i].day ≥ day ∧ leastR b s b.tides[i] ≥ 0
    · rw [if_pos hp] at e
      exact .inr ⟨i, hi, e, hp.1, hp.2, fun j _ h1 h2 => by omega⟩
    · rw [if_neg hp] at e
      have step : ∀ (j : Nat) (h : j < b.tides.length), j = i → b.tides[j].day ≥ day → leastR b s b.tides[j] < 0 := fun j hj h1 h2 => by
        subst h1
        rcases Int.lt_or_le (leastR b s b.tides[j]) 0 with h3 | h3
        · exact h3
        · exact absurd ⟨h2, h3⟩ hp
      rw [e]
      rcases firstF_spec b s day k (i + 1) (by omega) with ⟨h1, h2⟩ | ⟨m, hm, h1, h2, h3, h4⟩
      · refine .inl ⟨h1, fun j hj h3 h4 => ?_⟩
        by_cases h5 : j = i
        · exact step j hj h5 h4
        · exact h2 j hj (by omega) h4
      · refine .inr ⟨m, hm, h1, h2, h3, fun j hj h5 h6 h7 => ?_⟩
        by_cases h8 : j = i
        · exact step j hj h8 h7
        · exact h4 j hj (by omega) h6 h7

theorem first_spec (b : Be) (s : Sh) (day : Int) : (firstF b s day b.tides.length 0 = none ∧ ∀ (j : Nat) (h : j < b.tides.length), b.tides[j].day ≥ day → leastR b s b.tides[j] < 0) ∨
    ∃ (m : Nat), firstF b s day b.tides.length 0 = some (m, leastR b s (b.tides.getD m ⟨0, ⟨0, 0⟩, ⟨0, 0⟩⟩)) ∧ ∃ (h : m < b.tides.length), b.tides[m].day ≥ day ∧ leastR b s b.tides[m] ≥ 0 ∧ ∀ (j : Nat) (h : j < b.tides.length), j < m → b.tides[j].day ≥ day → leastR b s b.tides[j] < 0 := by
  rcases firstF_spec b s day b.tides.length 0 (Nat.zero_add _) with ⟨h1, h2⟩ | ⟨m, hm, h1, h2, h3, h4⟩
  · exact .inl ⟨h1, fun j hj h => h2 j hj (Nat.zero_le _) h⟩
  · refine .inr ⟨m, ?_, hm, h2, h3, fun j hj h h' => h4 j hj (Nat.zero_le _) h h'⟩
    rw [h1, List.getD_eq_getElem?_getD, List.getElem?_eq_getElem hm]; rfl

set_option maxRecDepth 100000 in
set_option maxHeartbeats 4000000 in
theorem den11 (b : Be) (s : Sh) (x0 x1 : Int) (x2 : Nat) (x3 : Int) (hx0 : 0 ≤ x0) (hx0' : x0 ≤ 65535) (hx1 : 0 ≤ x1) (hx1' : x1 ≤ 65535) (hx2 : x2 ≤ 65535) (hx3 : 0 ≤ x3) (hx3' : x3 ≤ 65535) :
    DN 11 [.agg b.enc, .agg s.enc, .agg [.int .u16 x0, .int .u16 x1, .int .u16 x2, .int .u16 x3]] (.bool true) := by
  refine mk Try.func11 Try.call11 rfl rfl ?_
  refine ⟨_, rfl, _, den37 b s, ?_⟩
  refine ⟨fun h1 => ?_, fun h1 => ?_⟩
  · have h1 : (!((checkR b s).2.2 == 0)) = true := h1
    have hc : (checkR b s).2.2 ≠ 0 := by simpa using h1
    have hb := first_bad hc
    refine ⟨_, rfl, _, den26 b s 0, ?_⟩
    refine ⟨fun h => ?_, fun h => ?_⟩
    · refine ⟨_, rfl, _, den23, ?_⟩
      rfl
    · have h : ((firstR b s 0).2.2 != 0) = false := h
      exact absurd (by simpa using h) hb
  have h1 : (!((checkR b s).2.2 == 0)) = false := h1
  have h1 : ((checkR b s).2.2 == 0) = true := by simpa using h1
  have hc : (checkR b s).2.2 = 0 := by simpa using h1
  have hok := valid_ok h1
  have hn0 := hok.n0
  have hn12 := hok.n1
  have hlen : ((b.tides.map Ti.enc).length : Int) = b.tides.length := by rw [List.length_map]
  have hmi : ((x2 : Nat) : Int).tmod ((b.tides.map Ti.enc).length : Int) = ((x2 % b.tides.length : Nat) : Int) := by rw [hlen]; rfl
  have hk : x2 % b.tides.length < b.tides.length := Nat.mod_lt _ hn0
  have hmn : x3.tmod 41 = x3 % 41 := Int.tmod_eq_emod_of_nonneg hx3
  have hk0 : 0 ≤ x3 % 41 := by omega
  have hk1 : x3 % 41 ≤ 40 := by omega
  have hr0 : x0.tmod 40001 = x0 % 40001 := Int.tmod_eq_emod_of_nonneg hx0
  have hd0 : 0 ≤ x0 % 40001 := by omega
  have hd1 : x0 % 40001 ≤ 40000 := by omega
  revert hk hmi
  generalize x2 % b.tides.length = k
  intro hmi hk
  revert hmn hk0 hk1
  generalize x3 % 41 = n
  intro hmn hk0 hk1
  revert hr0 hd0 hd1
  generalize x0 % 40001 = day
  intro hr0 hd0 hd1
  have hr1 : x1.tmod (40000 - day + 1) = x1 % (40000 - day + 1) := Int.tmod_eq_emod_of_nonneg hx1
  have hb0 : 0 ≤ x1 % (40000 - day + 1) := Int.emod_nonneg _ (by omega)
  have hb1 : x1 % (40000 - day + 1) < 40000 - day + 1 := Int.emod_lt_of_pos _ (by omega)
  revert hr1 hb0 hb1
  generalize x1 % (40000 - day + 1) = by1
  intro hr1 hb0 hb1
  have hrowk : (b.tides.map Ti.enc)[((k : Int)).toNat]? = some (b.tides[k].enc) := by simp [hk]
  have hstep := step_ok hc k hk hk0 hk1
  have h28 := den28 b s k n
  have hm := miss_err b s k hk hstep
  revert h28 hm
  generalize missesR b s k n = m
  intro h28 hm
  refine ⟨by decide, ?_⟩
  refine ⟨_, wrap64 (n := x0) (by omega) (by omega), ?_⟩
  refine ⟨by decide, _, hr0, ?_⟩
  have h26 := den26 b s day
  rw [first_ok hc hd0 hd1] at h26
  rcases first_spec b s day with ⟨e1, hbefore⟩ | ⟨j, e1, hj, hday, hnn, hbefore⟩
  · rw [e1] at h26
    have hbefore : ∀ (j : Nat) (h : j < b.tides.length), j < b.tides.length → b.tides[j].day ≥ day → leastR b s b.tides[j] < 0 := fun j h _ => hbefore j h
    refine ⟨_, rfl, _, h26, ?_⟩
    refine ⟨fun h => absurd (show false = true from h) (by decide), fun _ => ?_⟩
    refine ⟨by decide, ?_⟩
    refine ⟨_, wrap64 (n := x2) (by omega) (by omega), ?_⟩
    refine ⟨by rw [hlen]; omega, _, hmi, ?_⟩
    refine ⟨by decide, ?_⟩
    refine ⟨_, wrap64 (n := x3) (by omega) (by omega), ?_⟩
    refine ⟨by decide, _, hmn, ?_⟩
    refine ⟨_, rfl, _, h28, ?_⟩
    refine ⟨fun h2 => ?_, fun h2 => ?_⟩
    · have h2 : decide ((k : Int) < ((b.tides.map Ti.enc).length : Int)) = true := h2
      have h2 := of_decide_eq_true h2
      refine ⟨by omega, _, hrowk, ?_⟩
      refine ⟨fun h3 => ?_, fun h3 => ?_⟩
      · have h3 : b.tides[k].day ≥ day := of_decide_eq_true h3
        have hneg := hbefore k hk (by omega) h3
        have hw2 : withinR b s.sink (boxOf b s b.tides[k]) n = false := by
          rcases leastR_spec b s b.tides[k] with ⟨_, h4⟩ | ⟨r, h4, h5, _⟩
          · exact h4 n hk0 hk1
          · omega
        rw [if_neg (by rw [hw2]; decide)] at hm
        subst hm
        refine ⟨fun h => absurd (show false = true from h) (by decide), fun _ => ?_⟩
        refine Or.inl ⟨by kernel_rfl, ?_⟩
        refine ⟨by decide, ?_⟩
        refine ⟨_, wrap64 (n := x1) (by omega) (by omega), ?_⟩
        refine ⟨_, wrap64 (n := 40000 - day) (by omega) (by omega), ?_⟩
        refine ⟨_, wrap64 (n := 40000 - day + 1) (by omega) (by omega), ?_⟩
        refine ⟨by omega, _, hr1, ?_⟩
        refine ⟨_, wrap64 (n := day + by1) (by omega) (by omega), ?_⟩
        have h26 := den26 b s (day + by1)
        rw [first_ok hc (by omega) (by omega)] at h26
        rcases first_spec b s (day + by1) with ⟨e2, _⟩ | ⟨j2, e2, hj2, a2, b2, _⟩
        · rw [e2] at h26
          refine ⟨_, rfl, _, h26, ?_⟩
          refine ⟨fun h => absurd (show false = true from h) (by decide), fun _ => ?_⟩
          refine ⟨fun _ => ?_, fun h => absurd (show true = false from h) (by decide)⟩
          refine ⟨fun _ => ?_, fun h => absurd (show true = false from h) (by decide)⟩
          refine ⟨_, rfl, _, den23, ?_⟩
          rfl
        · exact absurd b2 (by have := hbefore j2 hj2 (by omega); have := this (by omega); omega)
      · skip
        refine Or.inl ⟨by kernel_rfl, ?_⟩
        refine ⟨by decide, ?_⟩
        refine ⟨_, wrap64 (n := x1) (by omega) (by omega), ?_⟩
        refine ⟨_, wrap64 (n := 40000 - day) (by omega) (by omega), ?_⟩
        refine ⟨_, wrap64 (n := 40000 - day + 1) (by omega) (by omega), ?_⟩
        refine ⟨by omega, _, hr1, ?_⟩
        refine ⟨_, wrap64 (n := day + by1) (by omega) (by omega), ?_⟩
        have h26 := den26 b s (day + by1)
        rw [first_ok hc (by omega) (by omega)] at h26
        rcases first_spec b s (day + by1) with ⟨e2, _⟩ | ⟨j2, e2, hj2, a2, b2, _⟩
        · rw [e2] at h26
          refine ⟨_, rfl, _, h26, ?_⟩
          refine ⟨fun h => absurd (show false = true from h) (by decide), fun _ => ?_⟩
          refine ⟨fun _ => ?_, fun h => absurd (show true = false from h) (by decide)⟩
          refine ⟨fun _ => ?_, fun h => absurd (show true = false from h) (by decide)⟩
          refine ⟨_, rfl, _, den23, ?_⟩
          rfl
        · exact absurd b2 (by have := hbefore j2 hj2 (by omega); have := this (by omega); omega)
    · skip
      refine Or.inl ⟨by kernel_rfl, ?_⟩
      refine ⟨by decide, ?_⟩
      refine ⟨_, wrap64 (n := x1) (by omega) (by omega), ?_⟩
      refine ⟨_, wrap64 (n := 40000 - day) (by omega) (by omega), ?_⟩
      refine ⟨_, wrap64 (n := 40000 - day + 1) (by omega) (by omega), ?_⟩
      refine ⟨by omega, _, hr1, ?_⟩
      refine ⟨_, wrap64 (n := day + by1) (by omega) (by omega), ?_⟩
      have h26 := den26 b s (day + by1)
      rw [first_ok hc (by omega) (by omega)] at h26
      rcases first_spec b s (day + by1) with ⟨e2, _⟩ | ⟨j2, e2, hj2, a2, b2, _⟩
      · rw [e2] at h26
        refine ⟨_, rfl, _, h26, ?_⟩
        refine ⟨fun h => absurd (show false = true from h) (by decide), fun _ => ?_⟩
        refine ⟨fun _ => ?_, fun h => absurd (show true = false from h) (by decide)⟩
        refine ⟨fun _ => ?_, fun h => absurd (show true = false from h) (by decide)⟩
        refine ⟨_, rfl, _, den23, ?_⟩
        rfl
      · exact absurd b2 (by have := hbefore j2 hj2 (by omega); have := this (by omega); omega)
  · rw [e1] at h26
    have hgd : b.tides.getD j ⟨0, ⟨0, 0⟩, ⟨0, 0⟩⟩ = b.tides[j] := by rw [List.getD_eq_getElem?_getD, List.getElem?_eq_getElem hj]; rfl
    rw [hgd] at h26
    have h24 := den24 b s j
    rw [least_ok hc j hj, if_neg (by omega)] at h24
    have hrowj : (b.tides.map Ti.enc)[((j : Int)).toNat]? = some (b.tides[j].enc) := by simp [hj]
    refine ⟨_, rfl, _, h26, ?_⟩
    refine ⟨fun _ => ?_, fun h => absurd (show true = false from h) (by decide)⟩
    refine ⟨_, rfl, _, h24, ?_⟩
    refine ⟨fun h => absurd (show (j : Int) < 0 from of_decide_eq_true h) (by omega), fun _ => ?_⟩
    refine ⟨fun h => absurd (show (j : Int) ≥ ((b.tides.map Ti.enc).length : Int) from of_decide_eq_true h) (by rw [hlen]; omega), fun _ => ?_⟩
    refine ⟨fun h => absurd (show false = true from h) (by decide), fun _ => ?_⟩
    refine ⟨fun h => absurd h (by simp), fun _ => ?_⟩
    refine ⟨show (0 : Int) ≤ (j : Int) by omega, _, hrowj, ?_⟩
    refine ⟨fun h => absurd (of_decide_eq_true h) (by omega), fun _ => ?_⟩
    refine ⟨by decide, ?_⟩
    refine ⟨_, wrap64 (n := x2) (by omega) (by omega), ?_⟩
    refine ⟨by rw [hlen]; omega, _, hmi, ?_⟩
    refine ⟨by decide, ?_⟩
    refine ⟨_, wrap64 (n := x3) (by omega) (by omega), ?_⟩
    refine ⟨by decide, _, hmn, ?_⟩
    refine ⟨_, rfl, _, h28, ?_⟩
    refine ⟨fun h2 => ?_, fun h2 => ?_⟩
    · have h2 : decide ((k : Int) < (j : Int)) = true := h2
      have h2 := of_decide_eq_true h2
      refine ⟨by omega, _, hrowk, ?_⟩
      refine ⟨fun h3 => ?_, fun h3 => ?_⟩
      · have h3 : b.tides[k].day ≥ day := of_decide_eq_true h3
        have hneg := hbefore k hk (by omega) h3
        have hw2 : withinR b s.sink (boxOf b s b.tides[k]) n = false := by
          rcases leastR_spec b s b.tides[k] with ⟨_, h4⟩ | ⟨r, h4, h5, _⟩
          · exact h4 n hk0 hk1
          · omega
        rw [if_neg (by rw [hw2]; decide)] at hm
        subst hm
        refine ⟨fun h => absurd (show false = true from h) (by decide), fun _ => ?_⟩
        refine Or.inl ⟨by kernel_rfl, ?_⟩
        refine ⟨by decide, ?_⟩
        refine ⟨_, wrap64 (n := x1) (by omega) (by omega), ?_⟩
        refine ⟨_, wrap64 (n := 40000 - day) (by omega) (by omega), ?_⟩
        refine ⟨_, wrap64 (n := 40000 - day + 1) (by omega) (by omega), ?_⟩
        refine ⟨by omega, _, hr1, ?_⟩
        refine ⟨_, wrap64 (n := day + by1) (by omega) (by omega), ?_⟩
        have h26 := den26 b s (day + by1)
        rw [first_ok hc (by omega) (by omega)] at h26
        rcases first_spec b s (day + by1) with ⟨e2, _⟩ | ⟨j2, e2, hj2, a2, b2, _⟩
        · rw [e2] at h26
          refine ⟨_, rfl, _, h26, ?_⟩
          refine ⟨fun _ => ?_, fun h => absurd (show true = false from h) (by decide)⟩
          refine ⟨fun _ => ?_, fun h => absurd (show true = false from h) (by decide)⟩
          refine ⟨_, rfl, _, den23, ?_⟩
          rfl
        · rw [e2] at h26
          have hle : j ≤ j2 := by
            rcases Nat.lt_or_ge j2 j with h | h
            · exact absurd b2 (by have := hbefore j2 hj2 h; have := this (by omega); omega)
            · exact h
          refine ⟨_, rfl, _, h26, ?_⟩
          refine ⟨fun _ => ?_, fun h => absurd (show true = false from h) (by decide)⟩
          refine ⟨fun h => absurd (show false = true from h) (by decide), fun _ => ?_⟩
          refine ⟨fun _ => ?_, fun h => absurd (show true = false from h) (by decide)⟩
          refine ⟨fun _ => ?_, fun h => absurd (show true = false from h) (by decide)⟩
          refine ⟨fun _ => ?_, fun h => absurd (show ¬ ((j2 : Int) ≥ (j : Int)) from of_decide_eq_false h) (by omega)⟩
          refine ⟨_, rfl, _, den23, ?_⟩
          rfl
      · skip
        refine Or.inl ⟨by kernel_rfl, ?_⟩
        refine ⟨by decide, ?_⟩
        refine ⟨_, wrap64 (n := x1) (by omega) (by omega), ?_⟩
        refine ⟨_, wrap64 (n := 40000 - day) (by omega) (by omega), ?_⟩
        refine ⟨_, wrap64 (n := 40000 - day + 1) (by omega) (by omega), ?_⟩
        refine ⟨by omega, _, hr1, ?_⟩
        refine ⟨_, wrap64 (n := day + by1) (by omega) (by omega), ?_⟩
        have h26 := den26 b s (day + by1)
        rw [first_ok hc (by omega) (by omega)] at h26
        rcases first_spec b s (day + by1) with ⟨e2, _⟩ | ⟨j2, e2, hj2, a2, b2, _⟩
        · rw [e2] at h26
          refine ⟨_, rfl, _, h26, ?_⟩
          refine ⟨fun _ => ?_, fun h => absurd (show true = false from h) (by decide)⟩
          refine ⟨fun _ => ?_, fun h => absurd (show true = false from h) (by decide)⟩
          refine ⟨_, rfl, _, den23, ?_⟩
          rfl
        · rw [e2] at h26
          have hle : j ≤ j2 := by
            rcases Nat.lt_or_ge j2 j with h | h
            · exact absurd b2 (by have := hbefore j2 hj2 h; have := this (by omega); omega)
            · exact h
          refine ⟨_, rfl, _, h26, ?_⟩
          refine ⟨fun _ => ?_, fun h => absurd (show true = false from h) (by decide)⟩
          refine ⟨fun h => absurd (show false = true from h) (by decide), fun _ => ?_⟩
          refine ⟨fun _ => ?_, fun h => absurd (show true = false from h) (by decide)⟩
          refine ⟨fun _ => ?_, fun h => absurd (show true = false from h) (by decide)⟩
          refine ⟨fun _ => ?_, fun h => absurd (show ¬ ((j2 : Int) ≥ (j : Int)) from of_decide_eq_false h) (by omega)⟩
          refine ⟨_, rfl, _, den23, ?_⟩
          rfl
    · skip
      refine Or.inl ⟨by kernel_rfl, ?_⟩
      refine ⟨by decide, ?_⟩
      refine ⟨_, wrap64 (n := x1) (by omega) (by omega), ?_⟩
      refine ⟨_, wrap64 (n := 40000 - day) (by omega) (by omega), ?_⟩
      refine ⟨_, wrap64 (n := 40000 - day + 1) (by omega) (by omega), ?_⟩
      refine ⟨by omega, _, hr1, ?_⟩
      refine ⟨_, wrap64 (n := day + by1) (by omega) (by omega), ?_⟩
      have h26 := den26 b s (day + by1)
      rw [first_ok hc (by omega) (by omega)] at h26
      rcases first_spec b s (day + by1) with ⟨e2, _⟩ | ⟨j2, e2, hj2, a2, b2, _⟩
      · rw [e2] at h26
        refine ⟨_, rfl, _, h26, ?_⟩
        refine ⟨fun _ => ?_, fun h => absurd (show true = false from h) (by decide)⟩
        refine ⟨fun _ => ?_, fun h => absurd (show true = false from h) (by decide)⟩
        refine ⟨_, rfl, _, den23, ?_⟩
        rfl
      · rw [e2] at h26
        have hle : j ≤ j2 := by
          rcases Nat.lt_or_ge j2 j with h | h
          · exact absurd b2 (by have := hbefore j2 hj2 h; have := this (by omega); omega)
          · exact h
        refine ⟨_, rfl, _, h26, ?_⟩
        refine ⟨fun _ => ?_, fun h => absurd (show true = false from h) (by decide)⟩
        refine ⟨fun h => absurd (show false = true from h) (by decide), fun _ => ?_⟩
        refine ⟨fun _ => ?_, fun h => absurd (show true = false from h) (by decide)⟩
        refine ⟨fun _ => ?_, fun h => absurd (show true = false from h) (by decide)⟩
        refine ⟨fun _ => ?_, fun h => absurd (show ¬ ((j2 : Int) ≥ (j : Int)) from of_decide_eq_false h) (by omega)⟩
        refine ⟨_, rfl, _, den23, ?_⟩
        rfl

end Go.Proofs.Tide
