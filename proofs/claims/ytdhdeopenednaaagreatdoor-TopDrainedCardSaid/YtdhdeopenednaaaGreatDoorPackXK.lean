/- What the statements are told with: stop, inside, turn, among, Truth, end; Both ends of Stops are reached; Each truth of a tide stops within Stops; ashore: within the marks; else Misses names one that is not. No condition. -/
import Derived.Test.YtdhdeopenednaaaGreatDoorPackXJ

namespace Go.Proofs.Tide
open Go.V Go.Proofs Go.Proofs.Top

def rowU (x : Int) : List D := [.int .u16 x]
abbrev u16s (xs : List Int) : D := .list 1 (xs.map rowU)

/-- The n-th number of a list, by turns. -/
def turnR (xs : List Int) (n : Nat) : Int := match xs with | [] => 0 | _ => xs.getD (n % xs.length) 0

theorem turnR_in {xs : List Int} (h : ∀ x ∈ xs, 0 ≤ x ∧ x ≤ 65535) (n : Nat) : 0 ≤ turnR xs n ∧ turnR xs n ≤ 65535 := by
  unfold turnR
  cases xs with
  | nil => simp
  | cons x r =>
    simp only
    have hl : n % (x :: r).length < (x :: r).length := Nat.mod_lt _ (by simp)
    rw [List.getD_eq_getElem?_getD, List.getElem?_eq_getElem hl]
    exact h _ (List.getElem_mem _)

theorem den46 (xs : List Int) (h : ∀ x ∈ xs, 0 ≤ x ∧ x ≤ 65535) (hl : xs.length ≤ 9223372036854775807) (n : Nat) (hn : n < 1000000) : DN 46 [u16s xs, .int .i64 n] (.int .i64 (turnR xs n)) := by
  refine mk Tryz.func46 Tryz.call46 rfl rfl ?_
  refine ⟨fun h1 => ?_, fun h1 => ?_⟩
  · have h1 : (((xs.map rowU).length : Int) == 0) = true := h1
    rw [List.length_map] at h1
    have : xs = [] := by cases xs with | nil => rfl | cons x r => simp at h1; omega
    subst this
    rfl
  · have h1 : (((xs.map rowU).length : Int) == 0) = false := h1
    rw [List.length_map] at h1
    have hpos : 0 < xs.length := by cases xs with | nil => simp at h1 | cons x r => simp
    have hlt : n % xs.length < xs.length := Nat.mod_lt _ hpos
    have hmod : ((n : Int)).tmod (((xs.map rowU).length : Nat) : Int) = ((n % xs.length : Nat) : Int) := by
      rw [List.length_map]; rfl
    have hrow : (xs.map rowU)[(((n : Int)).tmod (((xs.map rowU).length : Nat) : Int)).toNat]? = some [.int .u16 (turnR xs n)] := by
      rw [hmod, show (((n % xs.length : Nat) : Int)).toNat = n % xs.length from rfl]
      have e : turnR xs n = xs[n % xs.length] := by
        unfold turnR
        cases xs with
        | nil => simp at hpos
        | cons x r => simp only; rw [List.getD_eq_getElem?_getD, List.getElem?_eq_getElem hlt]; rfl
      rw [e]
      simp [hlt, rowU]
    have hb := turnR_in h n
    refine ⟨by rw [List.length_map]; omega, _, rfl, ?_⟩
    refine ⟨by rw [hmod]; omega, _, hrow, ?_⟩
    refine ⟨_, wrap64 (n := turnR xs n) (by omega) (by omega), ?_⟩
    rfl

/-- A number of a span. -/
def amongR (s : Sp) (n : Int) : Int := s.lo + n % (s.hi - s.lo + 1)

theorem among_in {s : Sp} (h : s.lo ≤ s.hi) (n : Int) : s.lo ≤ amongR s n ∧ amongR s n ≤ s.hi := by
  unfold amongR
  have h1 := Int.emod_nonneg n (b := s.hi - s.lo + 1) (by omega)
  have h2 := Int.emod_lt_of_pos n (b := s.hi - s.lo + 1) (by omega)
  omega

theorem den45 (s : Sp) (h : s.lo ≤ s.hi) (h0 : -10000000 ≤ s.lo) (h1 : s.hi ≤ 10000000) (n : Int) (hn : 0 ≤ n) : DN 45 [.agg s.enc, .int .i64 n] (.int .i64 (amongR s n)) := by
  refine mk Tryz.func45 Tryz.call45 rfl rfl ?_
  refine Or.inl ⟨by kernel_rfl, ?_⟩
  refine ⟨_, wrap64 (n := s.hi - s.lo) (by omega) (by omega), ?_⟩
  refine ⟨_, wrap64 (n := s.hi - s.lo + 1) (by omega) (by omega), ?_⟩
  have hb := among_in h n
  have e : n.tmod (s.hi - s.lo + 1) = n % (s.hi - s.lo + 1) := Int.tmod_eq_emod_of_nonneg hn
  refine ⟨by omega, n % (s.hi - s.lo + 1), e, ?_⟩
  refine ⟨_, wrap64 (n := amongR s n) (by omega) (by omega), ?_⟩
  rfl

/-- Any truth of a tide, by turns. -/
def truthR (b : Be) (s : Sh) (i : Nat) (xs : List Int) : Tr :=
  ⟨amongR b.slope (turnR xs 0), amongR s.draft (turnR xs 1), amongR (b.tides.getD i ⟨0, ⟨0, 0⟩, ⟨0, 0⟩⟩).height (turnR xs (2 * i + 2)), amongR (b.tides.getD i ⟨0, ⟨0, 0⟩, ⟨0, 0⟩⟩).wind (turnR xs (2 * i + 3))⟩

theorem den9 (b : Be) (s : Sh) (hok : Ok b s) (i : Nat) (hi : i < b.tides.length) (xs : List Int) (h : ∀ x ∈ xs, 0 ≤ x ∧ x ≤ 65535) (hl : xs.length ≤ 9223372036854775807) :
    DN 9 [.agg b.enc, .agg s.enc, .int .i64 i, u16s xs] (.agg (truthR b s i xs).enc) := by
  have hrow : (b.tides.map Ti.enc)[((i : Int)).toNat]? = some (b.tides[i].enc) := by simp [hi]
  have hget : b.tides.getD i ⟨0, ⟨0, 0⟩, ⟨0, 0⟩⟩ = b.tides[i] := by rw [List.getD_eq_getElem?_getD, List.getElem?_eq_getElem hi]; rfl
  have hn12 := hok.n1
  have s1 := hok.slope
  have s2 := hok.draft
  have s3 := hok.height i hi
  have s4 := hok.wind i hi
  unfold Sp.In at s1 s2 s3 s4
  unfold truthR
  rw [hget]
  have t2 := den46 xs h hl (2 * i + 2) (by omega)
  have t3 := den46 xs h hl (2 * i + 3) (by omega)
  rw [show (((2 * i + 2 : Nat)) : Int) = 2 * (i : Int) + 2 by omega] at t2
  rw [show (((2 * i + 3 : Nat)) : Int) = 2 * (i : Int) + 3 by omega] at t3
  refine mk Tryz.func9 Tryz.call9 rfl rfl ?_
  refine ⟨by omega, _, hrow, ?_⟩
  refine Or.inl ⟨by kernel_rfl, ?_⟩
  refine ⟨_, rfl, _, den46 xs h hl 0 (by decide), ?_⟩
  refine ⟨_, rfl, _, den45 b.slope (by omega) (by omega) (by omega) _ (turnR_in h 0).1, ?_⟩
  refine ⟨_, rfl, _, den46 xs h hl 1 (by decide), ?_⟩
  refine ⟨_, rfl, _, den45 s.draft (by omega) (by omega) (by omega) _ (turnR_in h 1).1, ?_⟩
  refine ⟨_, wrap64 (n := 2 * (i : Int)) (by omega) (by omega), ?_⟩
  refine ⟨_, wrap64 (n := 2 * (i : Int) + 2) (by omega) (by omega), ?_⟩
  refine ⟨_, rfl, _, t2, ?_⟩
  refine ⟨_, rfl, _, den45 b.tides[i].height (by omega) (by omega) (by omega) _ (turnR_in h _).1, ?_⟩
  refine ⟨_, wrap64 (n := 2 * (i : Int)) (by omega) (by omega), ?_⟩
  refine ⟨_, wrap64 (n := 2 * (i : Int) + 3) (by omega) (by omega), ?_⟩
  refine ⟨_, rfl, _, t3, ?_⟩
  refine ⟨_, rfl, _, den45 b.tides[i].wind (by omega) (by omega) (by omega) _ (turnR_in h _).1, ?_⟩
  rfl

/-- The truth of a tide in which she stops lowest, or highest, with the steeper or the flatter slope. -/
def endR (b : Be) (s : Sh) (t : Ti) (high steep : Bool) : Tr :=
  ⟨match steep with | true => b.slope.hi | false => b.slope.lo, match high with | true => s.draft.lo | false => s.draft.hi, match high with | true => t.height.hi | false => t.height.lo, match high with | true => t.wind.hi | false => t.wind.lo⟩

end Go.Proofs.Tide

namespace Go.Proofs.Tide
open Go.V Go.Proofs Go.Proofs.Top

theorem eqi_self {x : Int} (h : (x == x) = false) : False := by simp at h

theorem valid_ok {b : Be} {s : Sh} (h : ((checkR b s).2.2 == 0) = true) : Ok b s := ok_of (by simpa using h)

theorem tr_small {t : Tr} (h1 : 1 ≤ t.slope) (h2 : t.slope ≤ 200) (h3 : 0 ≤ t.draft) (h4 : t.draft ≤ 1500) (h5 : 0 ≤ t.height) (h6 : t.height ≤ 1500) (h7 : -200 ≤ t.wind) (h8 : t.wind ≤ 200) : t.Small := by
  constructor <;> omega

theorem Ok.end_small {b : Be} {s : Sh} (hok : Ok b s) (i : Nat) (hi : i < b.tides.length) (high steep : Bool) : (endR b s b.tides[i] high steep).Small := by
  have s1 := hok.slope
  have s2 := hok.draft
  have s3 := hok.height i hi
  have s4 := hok.wind i hi
  unfold Sp.In at s1 s2 s3 s4
  cases high <;> cases steep <;> (refine tr_small ?_ ?_ ?_ ?_ ?_ ?_ ?_ ?_ <;> simp only [endR] <;> omega)

theorem stops_ok {b : Be} {s : Sh} (hc : (checkR b s).2.2 = 0) (i : Nat) (hi : i < b.tides.length) {n : Int} (h0 : 0 ≤ n) (h1 : n ≤ 40) : stopsR b s i n = (reachR s.sink (boxOf b s b.tides[i]) n 0, 0) := by
  have hst : stepE b s i n = 0 := by
    unfold stepE errTB
    rw [if_neg (by omega), if_neg (by omega), if_neg (by omega)]
  unfold stopsR
  rw [if_neg (by omega), show ((i : Int)).toNat = i from rfl, List.getElem?_eq_getElem hi]

theorem u8_wf {x : Int} (h : (Lit.int .u8 x).wf = true) : 0 ≤ x ∧ x ≤ 255 := by
  simp [Lit.wf, IntKind.min, IntKind.max, IntKind.signed, IntKind.bits] at h; omega

end Go.Proofs.Tide

namespace Go.Proofs.Tide
open Go.V Go.Proofs Go.Proofs.Top

theorem div_between (N : Int) {a m c : Int} (ha : 0 < a) (h1 : a ≤ m) (h2 : m ≤ c) : min (N / a) (N / c) ≤ N / m ∧ N / m ≤ max (N / a) (N / c) := by
  have hm : 0 < m := by omega
  have hc : 0 < c := by omega
  rcases Int.lt_or_le N 0 with h | h
  · have e1 : N / a ≤ N / m := by
      rw [Int.le_ediv_iff_mul_le hm]
      have h3 : N / a * a ≤ N := Int.ediv_mul_le N (by omega)
      have h4 : N / a ≤ 0 := by
        have : N / a < 0 := Int.ediv_neg_of_neg_of_pos h ha
        omega
      have h5 : N / a * m ≤ N / a * a := Int.mul_le_mul_of_nonpos_left h4 h1
      omega
    have e2 : N / m ≤ N / c := by
      rw [Int.le_ediv_iff_mul_le hc]
      have h3 : N / m * m ≤ N := Int.ediv_mul_le N (by omega)
      have h4 : N / m ≤ 0 := by
        have : N / m < 0 := Int.ediv_neg_of_neg_of_pos h hm
        omega
      have h5 : N / m * c ≤ N / m * m := Int.mul_le_mul_of_nonpos_left h4 h2
      omega
    omega
  · have e1 : N / m ≤ N / a := by
      rw [Int.le_ediv_iff_mul_le ha]
      have h3 : N / m * m ≤ N := Int.ediv_mul_le N (by omega)
      have h4 : 0 ≤ N / m := Int.ediv_nonneg h (by omega)
      have h5 : N / m * a ≤ N / m * m := Int.mul_le_mul_of_nonneg_left h1 h4
      omega
    have e2 : N / c ≤ N / m := by
      rw [Int.le_ediv_iff_mul_le hm]
      have h3 : N / c * c ≤ N := Int.ediv_mul_le N (by omega)
      have h4 : 0 ≤ N / c := Int.ediv_nonneg h (by omega)
      have h5 : N / c * m ≤ N / c * c := Int.mul_le_mul_of_nonneg_left h2 h4
      omega
    omega

/-- A truth of a box. -/
def Tr.Of (t : Tr) (x : Bx) : Prop := (x.slope.lo ≤ t.slope ∧ t.slope ≤ x.slope.hi) ∧ (x.draft.lo ≤ t.draft ∧ t.draft ≤ x.draft.hi) ∧ (x.height.lo ≤ t.height ∧ t.height ≤ x.height.hi) ∧ (x.wind.lo ≤ t.wind ∧ t.wind ≤ x.wind.hi)

theorem at_in {t : Tr} {x : Bx} (h : t.Of x) (hs : 0 < x.slope.lo) (k n : Int) : (reachR k x n 0).lo ≤ atR k t n 0 ∧ atR k t n 0 ≤ (reachR k x n 0).hi := by
  obtain ⟨⟨a1, a2⟩, ⟨b1, b2⟩, ⟨c1, c2⟩, d1, d2⟩ := h
  have h1 := (div_between (1000 * (x.height.lo + x.wind.lo + 0 - x.draft.hi - k * n)) hs a1 a2).1
  have h2 := (div_between (1000 * (x.height.hi + x.wind.hi + 0 - x.draft.lo - k * n)) hs a1 a2).2
  have h3 : 1000 * (x.height.lo + x.wind.lo + 0 - x.draft.hi - k * n) / t.slope ≤ 1000 * (t.height + t.wind + 0 - t.draft - k * n) / t.slope := Int.ediv_le_ediv (by omega) (by omega)
  have h4 : 1000 * (t.height + t.wind + 0 - t.draft - k * n) / t.slope ≤ 1000 * (x.height.hi + x.wind.hi + 0 - x.draft.lo - k * n) / t.slope := Int.ediv_le_ediv (by omega) (by omega)
  exact ⟨Int.le_trans h1 h3, Int.le_trans h4 h2⟩

theorem Ok.truth_of {b : Be} {s : Sh} (hok : Ok b s) (i : Nat) (hi : i < b.tides.length) (xs : List Int) : (truthR b s i xs).Of (boxOf b s b.tides[i]) := by
  have hget : b.tides.getD i ⟨0, ⟨0, 0⟩, ⟨0, 0⟩⟩ = b.tides[i] := by rw [List.getD_eq_getElem?_getD, List.getElem?_eq_getElem hi]; rfl
  unfold truthR
  rw [hget]
  exact ⟨among_in hok.slope.2.1 _, among_in hok.draft.2.1 _, among_in (hok.height i hi).2.1 _, among_in (hok.wind i hi).2.1 _⟩

theorem Ok.of_small {b : Be} {s : Sh} (hok : Ok b s) (i : Nat) (hi : i < b.tides.length) {t : Tr} (h : t.Of (boxOf b s b.tides[i])) : t.Small := by
  have s1 := hok.slope
  have s2 := hok.draft
  have s3 := hok.height i hi
  have s4 := hok.wind i hi
  unfold Sp.In at s1 s2 s3 s4
  obtain ⟨⟨a1, a2⟩, ⟨b1, b2⟩, ⟨c1, c2⟩, d1, d2⟩ := h
  simp only [boxOf] at a1 a2 b1 b2 c1 c2 d1 d2
  refine tr_small ?_ ?_ ?_ ?_ ?_ ?_ ?_ ?_ <;> omega

theorem miss_of {b : Be} {k n : Int} {x : Bx} (h : x.Fine) (hw : withinR b k x n = false) : (missT b k n x).Of x ∧ ¬ (b.marks.lo ≤ atR k (missT b k n x) n 0 ∧ atR k (missT b k n x) n 0 ≤ b.marks.hi) := by
  have c := cuts h hw
  obtain ⟨_, a1, b1, _⟩ := num0_spec c.f0 c.w0
  obtain ⟨_, a2, b2, _⟩ := num1_spec c.f1 c.w1
  obtain ⟨_, a3, b3, _⟩ := num2_spec c.f2 c.w2
  obtain ⟨_, a4, b4, _⟩ := num3_spec c.f3 c.w3
  refine ⟨⟨⟨a1, b1⟩, ⟨a2, b2⟩, ⟨a3, b3⟩, a4, b4⟩, ?_⟩
  have hr : reachR k (cut4 b k n x) n 0 = ⟨min (atR k (missT b k n x) n 0) (atR k (missT b k n x) n 0), max (atR k (missT b k n x) n 0) (atR k (missT b k n x) n 0)⟩ := rfl
  have w4 := within_not.1 c.w4
  rw [hr] at w4
  intro h
  apply w4
  show b.marks.lo ≤ min (atR k (missT b k n x) n 0) (atR k (missT b k n x) n 0) ∧ max (atR k (missT b k n x) n 0) (atR k (missT b k n x) n 0) ≤ b.marks.hi
  omega

theorem found_mem {b : Be} {s : Sh} {n : Int} {i : Nat} (hi : i < b.tides.length) : ∀ m, ((i : Int) ∈ found b s n m) ↔ (i < m ∧ withinR b s.sink (boxOf b s b.tides[i]) n = true)
  | 0 => by simp [found]
  | m + 1 => by
    rcases Nat.lt_or_ge m b.tides.length with hm | hm
    · rw [found_succ hm]
      split
      · rename_i hw
        rw [List.mem_append, found_mem hi m]
        constructor
        · rintro (h | h)
          · exact ⟨by omega, h.2⟩
          · have h : (i : Int) = (m : Int) := by simpa using h
            have h : i = m := by omega
            subst h; exact ⟨by omega, hw⟩
        · rintro ⟨h1, h2⟩
          by_cases h : i = m
          · subst h; right; simp
          · left; exact ⟨by omega, h2⟩
      · rename_i hw
        rw [found_mem hi m]
        constructor
        · rintro ⟨h1, h2⟩; exact ⟨by omega, h2⟩
        · rintro ⟨h1, h2⟩
          have : i ≠ m := by rintro rfl; exact hw h2
          exact ⟨by omega, h2⟩
    · have hf : found b s n (m + 1) = found b s n m := by
        simp only [found, List.getElem?_eq_none hm]
      rw [hf, found_mem hi m]
      constructor
      · rintro ⟨h1, h2⟩; exact ⟨by omega, h2⟩
      · rintro ⟨h1, h2⟩; exact ⟨by omega, h2⟩

end Go.Proofs.Tide
