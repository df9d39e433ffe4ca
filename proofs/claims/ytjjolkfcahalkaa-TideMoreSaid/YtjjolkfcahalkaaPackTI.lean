/- What the statements are told with: stop, inside, turn, among, Truth, end; Both ends of Stops are reached. No condition. -/
import Derived.Test.YtjjolkfcahalkaaPackTD
import Derived.Test.YtjjolkfcahalkaaPackTE

namespace Go.Proofs.Tide
open Go.V Go.Proofs

theorem den37 (b : Be) (s : Sh) : DN 37 [.agg b.enc, .agg s.enc] (.bool ((checkR b s).2.2 == 0)) := by
  refine mk Try.func37 Try.call37 rfl rfl ?_
  refine ⟨_, rfl, _, den17 b s, ?_⟩
  rfl

theorem den40 (n : Int) (s : Sp) : DN 40 [.int .i64 n, .agg s.enc] (.bool (decide (n ≥ s.lo) && decide (n ≤ s.hi))) := by
  refine mk Try.func40 Try.call40 rfl rfl ?_
  refine ⟨fun h1 => ?_, fun h1 => ?_⟩
  · show some (D.bool _) = some (D.bool _)
    rw [h1]; rfl
  · show some (D.bool _) = some (D.bool _)
    rw [h1]; rfl

theorem den38 (s : Sh) (t : Tr) (ht : t.Small) (n : Int) (hm0 : -1000000 ≤ s.sink * n) (hm1 : s.sink * n ≤ 1000000) : DN 38 [.agg s.enc, .agg t.enc, .int .i64 n] (.int .i64 (atR s.sink t n 0)) := by
  obtain ⟨a1, a2, a3, a4, a5, a6, a7, a8⟩ := ht
  have hat : atR s.sink t n 0 = 1000 * (t.height + t.wind - t.draft - s.sink * n) / t.slope := by
    unfold atR; rw [show t.height + t.wind + 0 - t.draft - s.sink * n = t.height + t.wind - t.draft - s.sink * n by omega]
  rw [hat]
  refine mk Try.func38 Try.call38 rfl rfl ?_
  refine ⟨_, wrap64 (n := t.height + t.wind) (by omega) (by omega), ?_⟩
  refine ⟨_, wrap64 (n := t.height + t.wind - t.draft) (by omega) (by omega), ?_⟩
  refine ⟨_, wrap64 (n := s.sink * n) (by omega) (by omega), ?_⟩
  refine ⟨_, wrap64 (n := t.height + t.wind - t.draft - s.sink * n) (by omega) (by omega), ?_⟩
  refine ⟨_, wrap64 (n := 1000 * (t.height + t.wind - t.draft - s.sink * n)) (by omega) (by omega), ?_⟩
  have ho0 : -4000000000 ≤ 1000 * (t.height + t.wind - t.draft - s.sink * n) := by omega
  have ho1 : 1000 * (t.height + t.wind - t.draft - s.sink * n) ≤ 4000000000 := by omega
  generalize 1000 * (t.height + t.wind - t.draft - s.sink * n) = v at ho0 ho1 ⊢
  have hF1 := Int.ediv_mul_le v (b := t.slope) (by omega)
  have hF2 := Int.lt_ediv_add_one_mul_self v a1
  rw [Int.add_mul, Int.one_mul] at hF2
  have hFb := tdiv_bound v t.slope
  have hde := down_eq v t.slope a1
  have htd : v.tdiv t.slope = v / t.slope ∨ v.tdiv t.slope = v / t.slope + 1 := by
    by_cases h : v.tmod t.slope < 0
    · rw [if_pos h] at hde; omega
    · rw [if_neg h] at hde; omega
  refine ⟨fun h1 => absurd (of_decide_eq_true h1) (by omega), fun _ => ?_⟩
  refine ⟨by omega, _, wrap64 (n := v.tdiv t.slope) (by omega) (by omega), ?_⟩
  refine ⟨[4, 7, 8], 2, [], fun σ => ∃ m : Int, (m = v / t.slope ∨ m = v / t.slope + 1) ∧ σ = ⟨[(4, .loc 1 0), (7, .int .i64 v), (8, .int .i64 m)], [.flat false s.enc, .flat false t.enc], .non⟩, fun σ => (slotI 8 σ - v / t.slope).toNat, rfl, ⟨rfl, rfl⟩, ⟨v.tdiv t.slope, htd, rfl⟩, ?_⟩
  rintro σ ⟨m, hm, rfl⟩
  have hmul : m * t.slope = v / t.slope * t.slope ∨ m * t.slope = v / t.slope * t.slope + t.slope := by
    rcases hm with rfl | rfl
    · exact .inl rfl
    · exact .inr (by rw [Int.add_mul, Int.one_mul])
  refine ⟨m * t.slope, wrap64 (n := m * t.slope) (by omega) (by omega), ?_⟩
  refine ⟨fun h2 => ?_, fun h2 => ?_⟩
  · have h2 : m * t.slope > v := of_decide_eq_true h2
    have hm1 : m = v / t.slope + 1 := by
      rcases hm with rfl | h
      · omega
      · exact h
    refine ⟨_, wrap64 (n := m - 1) (by omega) (by omega), ?_⟩
    refine ⟨⟨rfl, rfl⟩, ⟨m - 1, .inl (by omega), rfl⟩, ?_⟩
    show (m - 1 - v / t.slope).toNat < (m - v / t.slope).toNat
    omega
  · have h2 : ¬ m * t.slope > v := of_decide_eq_false h2
    have hm1 : m = v / t.slope := by
      rcases hm with h | rfl
      · exact h
      · rw [Int.add_mul, Int.one_mul] at h2; omega
    show some (D.int .i64 m) = some (D.int .i64 _)
    rw [hm1]

def rowU (x : Int) : List D := [.int .u16 x]
abbrev u16s (xs : List Int) : D := .list 1 (xs.map rowU)

/-- The n-th number of a list, by turns. -/
def turnR (xs : List Int) (n : Nat) : Int := match xs with | [] => 0 | _ => xs.getD (n % xs.length) 0

theorem turnR_in {xs : List Int} (h : ∀ x ∈ xs, 0 ≤ x ∧ x ≤ 65535) (n : Nat) : 0 ≤ turnR xs n ∧ turnR xs n ≤ 65535 := by
  unfold turnR
  cases xs with
  | nil => simp
  | cons x r =>
    simp only
    have hl : n % (x :: r).length < (x :: r).length := Nat.mod_lt _ (by simp)
    rw [List.getD_eq_getElem?_getD, List.getElem?_eq_getElem hl]
    exact h _ (List.getElem_mem _)

theorem den43 (xs : List Int) (h : ∀ x ∈ xs, 0 ≤ x ∧ x ≤ 65535) (hl : xs.length ≤ 9223372036854775807) (n : Nat) (hn : n < 1000000) : DN 43 [u16s xs, .int .i64 n] (.int .i64 (turnR xs n)) := by
  refine mk Try.func43 Try.call43 rfl rfl ?_
  refine ⟨fun h1 => ?_, fun h1 => ?_⟩
  · have h1 : (((xs.map rowU).length : Int) == 0) = true := h1
    rw [List.length_map] at h1
    have : xs = [] := by cases xs with | nil => rfl | cons x r => simp at h1; omega
    subst this
    rfl
  · have h1 : (((xs.map rowU).length : Int) == 0) = false := h1
    rw [List.length_map] at h1
    have hpos : 0 < xs.length := by cases xs with | nil => simp at h1 | cons x r => simp
    have hlt : n % xs.length < xs.length := Nat.mod_lt _ hpos
    have hmod : ((n : Int)).tmod (((xs.map rowU).length : Nat) : Int) = ((n % xs.length : Nat) : Int) := by
      rw [List.length_map]; rfl
    have hrow : (xs.map rowU)[(((n : Int)).tmod (((xs.map rowU).length : Nat) : Int)).toNat]? = some [.int .u16 (turnR xs n)] := by
      rw [hmod, show (((n % xs.length : Nat) : Int)).toNat = n % xs.length from rfl]
      have e : turnR xs n = xs[n % xs.length] := by
        unfold turnR
        cases xs with
        | nil => simp at hpos
        | cons x r => simp only; rw [List.getD_eq_getElem?_getD, List.getElem?_eq_getElem hlt]; rfl
      rw [e]
      simp [hlt, rowU]
    have hb := turnR_in h n
    refine ⟨by rw [List.length_map]; omega, _, rfl, ?_⟩
    refine ⟨by rw [hmod]; omega, _, hrow, ?_⟩
    refine ⟨_, wrap64 (n := turnR xs n) (by omega) (by omega), ?_⟩
    rfl

/-- A number of a span. -/
def amongR (s : Sp) (n : Int) : Int := s.lo + n % (s.hi - s.lo + 1)

theorem among_in {s : Sp} (h : s.lo ≤ s.hi) (n : Int) : s.lo ≤ amongR s n ∧ amongR s n ≤ s.hi := by
  unfold amongR
  have h1 := Int.emod_nonneg n (b := s.hi - s.lo + 1) (by omega)
  have h2 := Int.emod_lt_of_pos n (b := s.hi - s.lo + 1) (by omega)
  omega

theorem den70 (s : Sp) (h : s.lo ≤ s.hi) (h0 : -10000000 ≤ s.lo) (h1 : s.hi ≤ 10000000) (n : Int) (hn : 0 ≤ n) : DN 70 [.agg s.enc, .int .i64 n] (.int .i64 (amongR s n)) := by
  refine mk Try.func70 Try.call70 rfl rfl ?_
  refine Or.inl ⟨by kernel_rfl, ?_⟩
  refine ⟨_, wrap64 (n := s.hi - s.lo) (by omega) (by omega), ?_⟩
  refine ⟨_, wrap64 (n := s.hi - s.lo + 1) (by omega) (by omega), ?_⟩
  have hb := among_in h n
  have e : n.tmod (s.hi - s.lo + 1) = n % (s.hi - s.lo + 1) := Int.tmod_eq_emod_of_nonneg hn
  refine ⟨by omega, n % (s.hi - s.lo + 1), e, ?_⟩
  refine ⟨_, wrap64 (n := amongR s n) (by omega) (by omega), ?_⟩
  rfl

/-- Any truth of a tide, by turns. -/
def truthR (b : Be) (s : Sh) (i : Nat) (xs : List Int) : Tr :=
  ⟨amongR b.slope (turnR xs 0), amongR s.draft (turnR xs 1), amongR (b.tides.getD i ⟨0, ⟨0, 0⟩, ⟨0, 0⟩⟩).height (turnR xs (2 * i + 2)), amongR (b.tides.getD i ⟨0, ⟨0, 0⟩, ⟨0, 0⟩⟩).wind (turnR xs (2 * i + 3))⟩

theorem den39 (b : Be) (s : Sh) (hok : Ok b s) (i : Nat) (hi : i < b.tides.length) (xs : List Int) (h : ∀ x ∈ xs, 0 ≤ x ∧ x ≤ 65535) (hl : xs.length ≤ 9223372036854775807) :
    DN 39 [.agg b.enc, .agg s.enc, .int .i64 i, u16s xs] (.agg (truthR b s i xs).enc) := by
  have hrow : (b.tides.map Ti.enc)[((i : Int)).toNat]? = some (b.tides[i].enc) := by simp [hi]
  have hget : b.tides.getD i ⟨0, ⟨0, 0⟩, ⟨0, 0⟩⟩ = b.tides[i] := by rw [List.getD_eq_getElem?_getD, List.getElem?_eq_getElem hi]; rfl
  have hn12 := hok.n1
  have s1 := hok.slope
  have s2 := hok.draft
  have s3 := hok.height i hi
  have s4 := hok.wind i hi
  unfold Sp.In at s1 s2 s3 s4
  unfold truthR
  rw [hget]
  have t2 := den43 xs h hl (2 * i + 2) (by omega)
  have t3 := den43 xs h hl (2 * i + 3) (by omega)
  rw [show (((2 * i + 2 : Nat)) : Int) = 2 * (i : Int) + 2 by omega] at t2
  rw [show (((2 * i + 3 : Nat)) : Int) = 2 * (i : Int) + 3 by omega] at t3
  refine mk Try.func39 Try.call39 rfl rfl ?_
  refine ⟨by omega, _, hrow, ?_⟩
  refine Or.inl ⟨by kernel_rfl, ?_⟩
  refine ⟨_, rfl, _, den43 xs h hl 0 (by decide), ?_⟩
  refine ⟨_, rfl, _, den70 b.slope (by omega) (by omega) (by omega) _ (turnR_in h 0).1, ?_⟩
  refine ⟨_, rfl, _, den43 xs h hl 1 (by decide), ?_⟩
  refine ⟨_, rfl, _, den70 s.draft (by omega) (by omega) (by omega) _ (turnR_in h 1).1, ?_⟩
  refine ⟨_, wrap64 (n := 2 * (i : Int)) (by omega) (by omega), ?_⟩
  refine ⟨_, wrap64 (n := 2 * (i : Int) + 2) (by omega) (by omega), ?_⟩
  refine ⟨_, rfl, _, t2, ?_⟩
  refine ⟨_, rfl, _, den70 b.tides[i].height (by omega) (by omega) (by omega) _ (turnR_in h _).1, ?_⟩
  refine ⟨_, wrap64 (n := 2 * (i : Int)) (by omega) (by omega), ?_⟩
  refine ⟨_, wrap64 (n := 2 * (i : Int) + 3) (by omega) (by omega), ?_⟩
  refine ⟨_, rfl, _, t3, ?_⟩
  refine ⟨_, rfl, _, den70 b.tides[i].wind (by omega) (by omega) (by omega) _ (turnR_in h _).1, ?_⟩
  rfl

/-- The truth of a tide in which she stops lowest, or highest, with the steeper or the flatter slope. -/
def endR (b : Be) (s : Sh) (t : Ti) (high steep : Bool) : Tr :=
  ⟨match steep with | true => b.slope.hi | false => b.slope.lo, match high with | true => s.draft.lo | false => s.draft.hi, match high with | true => t.height.hi | false => t.height.lo, match high with | true => t.wind.hi | false => t.wind.lo⟩

set_option maxRecDepth 100000 in
set_option maxHeartbeats 1000000 in
theorem den41 (b : Be) (s : Sh) (i : Nat) (hi : i < b.tides.length) (high steep : Bool) : DN 41 [.agg b.enc, .agg s.enc, .int .i64 i, .bool high, .bool steep] (.agg (endR b s b.tides[i] high steep).enc) := by
  have hrow : (b.tides.map Ti.enc)[((i : Int)).toNat]? = some (b.tides[i].enc) := by simp [hi]
  refine mk Try.func41 Try.call41 rfl rfl ?_
  refine ⟨by omega, _, hrow, ?_⟩
  refine ⟨fun h1 => ?_, fun h1 => ?_⟩
  · have h1 : high = true := h1
    subst h1
    refine ⟨fun h2 => ?_, fun h2 => ?_⟩
    · have h2 : steep = true := h2
      subst h2
      rfl
    · have h2 : steep = false := h2
      subst h2
      rfl
  · have h1 : high = false := h1
    subst h1
    refine ⟨fun h2 => ?_, fun h2 => ?_⟩
    · have h2 : steep = true := h2
      subst h2
      rfl
    · have h2 : steep = false := h2
      subst h2
      rfl

end Go.Proofs.Tide

namespace Go.Proofs.Tide
open Go.V Go.Proofs

theorem eqi_self {x : Int} (h : (x == x) = false) : False := by simp at h

theorem valid_ok {b : Be} {s : Sh} (h : ((checkR b s).2.2 == 0) = true) : Ok b s := ok_of (by simpa using h)

theorem tr_small {t : Tr} (h1 : 1 ≤ t.slope) (h2 : t.slope ≤ 200) (h3 : 0 ≤ t.draft) (h4 : t.draft ≤ 1500) (h5 : 0 ≤ t.height) (h6 : t.height ≤ 1500) (h7 : -200 ≤ t.wind) (h8 : t.wind ≤ 200) : t.Small := by
  constructor <;> omega

theorem Ok.end_small {b : Be} {s : Sh} (hok : Ok b s) (i : Nat) (hi : i < b.tides.length) (high steep : Bool) : (endR b s b.tides[i] high steep).Small := by
  have s1 := hok.slope
  have s2 := hok.draft
  have s3 := hok.height i hi
  have s4 := hok.wind i hi
  unfold Sp.In at s1 s2 s3 s4
  cases high <;> cases steep <;> (refine tr_small ?_ ?_ ?_ ?_ ?_ ?_ ?_ ?_ <;> simp only [endR] <;> omega)

theorem stops_ok {b : Be} {s : Sh} (hc : (checkR b s).2.2 = 0) (i : Nat) (hi : i < b.tides.length) {n : Int} (h0 : 0 ≤ n) (h1 : n ≤ 40) : stopsR b s i n = (reachR s.sink (boxOf b s b.tides[i]) n 0, 0) := by
  have hst : stepE b s i n = 0 := by
    unfold stepE errTB
    rw [if_neg (by omega), if_neg (by omega), if_neg (by omega)]
  unfold stopsR
  rw [if_neg (by omega), show ((i : Int)).toNat = i from rfl, List.getElem?_eq_getElem hi]

set_option maxRecDepth 100000 in
set_option maxHeartbeats 4000000 in
theorem den9 (b : Be) (s : Sh) (x : Nat) (y : Int) (hx1 : x ≤ 255) (hy0 : 0 ≤ y) (hy1 : y ≤ 255) : DN 9 [.agg b.enc, .agg s.enc, .agg [.int .u8 x, .int .u8 y]] (.bool true) := by
  refine mk Try.func9 Try.call9 rfl rfl ?_
  refine ⟨_, rfl, _, den37 b s, ?_⟩
  refine ⟨fun _ => ?_, fun h1 => ?_⟩
  · refine ⟨_, rfl, _, den23, ?_⟩
    rfl
  have h1 : (!((checkR b s).2.2 == 0)) = false := h1
  have h1 : ((checkR b s).2.2 == 0) = true := by simpa using h1
  have hc : (checkR b s).2.2 = 0 := by simpa using h1
  have hok := valid_ok h1
  have hn0 := hok.n0
  have hn12 := hok.n1
  have hlen : ((b.tides.map Ti.enc).length : Int) = b.tides.length := by rw [List.length_map]
  have hmi : ((x : Nat) : Int).tmod ((b.tides.map Ti.enc).length : Int) = ((x % b.tides.length : Nat) : Int) := by rw [hlen]; rfl
  have hi : x % b.tides.length < b.tides.length := Nat.mod_lt _ hn0
  have hmn : y.tmod 41 = y % 41 := Int.tmod_eq_emod_of_nonneg hy0
  have hk0 : 0 ≤ y % 41 := by omega
  have hk1 : y % 41 ≤ 40 := by omega
  have hw := hok.weight hk0 hk1
  revert hi hmi
  generalize x % b.tides.length = i
  intro hmi hi
  revert hmn hk0 hk1 hw
  generalize y % 41 = n
  intro hmn hk0 hk1 hw
  refine Or.inl ⟨by kernel_rfl, ?_⟩
  refine ⟨by decide, ?_⟩
  refine ⟨_, wrap64 (n := x) (by omega) (by omega), ?_⟩
  refine ⟨by rw [hlen]; omega, _, hmi, ?_⟩
  refine ⟨by decide, ?_⟩
  refine ⟨_, wrap64 (n := y) (by omega) (by omega), ?_⟩
  refine ⟨by decide, _, hmn, ?_⟩
  have h18 := den18 b s i n
  rw [stops_ok hc i hi hk0 hk1] at h18
  refine ⟨_, rfl, _, h18, ?_⟩
  refine Or.inl ⟨by kernel_rfl, ?_⟩
  refine ⟨_, rfl, _, den41 b s i hi false false, ?_⟩
  refine ⟨_, rfl, _, den38 s _ (hok.end_small i hi false false) n hw.1 hw.2, ?_⟩
  refine ⟨_, rfl, _, den41 b s i hi false true, ?_⟩
  refine ⟨_, rfl, _, den38 s _ (hok.end_small i hi false true) n hw.1 hw.2, ?_⟩
  refine Or.inl ⟨by kernel_rfl, ?_⟩
  refine ⟨_, rfl, _, den41 b s i hi true false, ?_⟩
  refine ⟨_, rfl, _, den38 s _ (hok.end_small i hi true false) n hw.1 hw.2, ?_⟩
  refine ⟨_, rfl, _, den41 b s i hi true true, ?_⟩
  refine ⟨_, rfl, _, den38 s _ (hok.end_small i hi true true) n hw.1 hw.2, ?_⟩
  refine Or.inl ⟨by kernel_rfl, ?_⟩
  refine ⟨fun _ => ?_, fun h => absurd (show true = false from h) (by decide)⟩
  refine ⟨_, rfl, _, den36 _ _, ?_⟩
  refine ⟨fun _ => ?_, fun h => ?_⟩
  · refine ⟨_, rfl, _, den23, ?_⟩
    rfl
  · have h : (((reachR s.sink (boxOf b s b.tides[i]) n 0).lo == (reachR s.sink (boxOf b s b.tides[i]) n 0).lo) && (((reachR s.sink (boxOf b s b.tides[i]) n 0).hi == (reachR s.sink (boxOf b s b.tides[i]) n 0).hi) && true)) = false := h
    simp at h

theorem u8_wf {x : Int} (h : (Lit.int .u8 x).wf = true) : 0 ≤ x ∧ x ≤ 255 := by
  simp [Lit.wf, IntKind.min, IntKind.max, IntKind.signed, IntKind.bits] at h; omega

set_option maxRecDepth 100000 in
theorem y2_of {n : Nat} {d : D} (h : WA Try.prog (n + 5) 69 d) : ∃ (x : Nat) (y : Int), d = .agg [.int .u8 x, .int .u8 y] ∧ x ≤ 255 ∧ (0 ≤ y ∧ y ≤ 255) := by
  obtain ⟨ds, rfl, g⟩ := wa_array Try.underlying69 h
  obtain ⟨a, r, rfl, _, ha, c, r2, rfl, _, hc, rfl⟩ := wt_array Try.underlying69 g
  obtain ⟨x, rfl, hx⟩ := wt_int Try.underlying5 ha
  obtain ⟨y, rfl, hy⟩ := wt_int Try.underlying5 hc
  have hx' := u8_wf hx
  have hy' := u8_wf hy
  obtain ⟨z, rfl⟩ : ∃ z : Nat, x = z := ⟨x.toNat, by omega⟩
  exact ⟨z, y, rfl, by omega, hy'⟩

end Go.Proofs.Tide
