/- The first tide; The first truth in which she does not stop within the marks: the law of it; Misses; The reference's Misses; Where a ship lies after pulls. No condition. -/
import Derived.Test.YtdhdeopenednaaaGreatDoorPackXH

namespace Go.Proofs.Tide
open Go.V Go.Proofs Go.Proofs.Top

/-- The first tide, of the k ones from the i-th on, on this day or later, with some ballast. -/
def firstF (b : Be) (s : Sh) (day : Int) : Nat → Nat → Option (Nat × Int)
  | 0, _ => none
  | k + 1, i => match b.tides[i]? with
    | some t => if t.day ≥ day ∧ leastR b s t ≥ 0 then some (i, leastR b s t) else firstF b s day k (i + 1)
    | none => none
def firstR (b : Be) (s : Sh) (day : Int) : Int × Int × Int :=
  if (checkR b s).2.2 ≠ 0 then (0, 0, (checkR b s).2.2) else if day < 0 ∨ day > 40000 then (0, 0, 7) else match firstF b s day b.tides.length 0 with
    | some x => (x.1, x.2, 0)
    | none => (0, 0, 9)

theorem firstF_step (b : Be) (s : Sh) (day : Int) {i : Nat} (hi : i < b.tides.length) : firstF b s day (b.tides.length - i) i = if b.tides[i].day ≥ day ∧ leastR b s b.tides[i] ≥ 0 then some (i, leastR b s b.tides[i]) else firstF b s day (b.tides.length - (i + 1)) (i + 1) := by
  rw [show b.tides.length - i = (b.tides.length - (i + 1)) + 1 by omega]
  simp only [firstF, List.getElem?_eq_getElem hi]

theorem stepE00 (b : Be) (s : Sh) : stepE b s 0 0 = (checkR b s).2.2 := by
  unfold stepE
  by_cases h : (checkR b s).2.2 = 0
  · have := (ok_of h).n0
    rw [if_neg (by omega), h]
    unfold errTB
    rw [if_neg (by omega), if_neg (by omega)]
  · rw [if_pos h]

theorem den31 (b : Be) (s : Sh) (day : Int) : DN 31 [.agg b.enc, .agg s.enc, .int .i64 day] (trip (firstR b s day)) := by
  refine mk Tryz.func31 Tryz.call31 rfl rfl ?_
  refine ⟨_, rfl, _, den47 b s 0 0, ?_⟩
  refine ⟨fun h1 => ?_, fun h1 => ?_⟩
  · have h1 : (stepE b s 0 0 != 0) = true := h1
    have h1 : stepE b s 0 0 ≠ 0 := by simpa using h1
    show some (trip (0, 0, stepE b s 0 0)) = _
    rw [stepE00] at *
    unfold firstR; rw [if_pos h1]
  have h1 : (stepE b s 0 0 != 0) = false := h1
  have h1 : stepE b s 0 0 = 0 := by simpa using h1
  have hc : (checkR b s).2.2 = 0 := by rw [← stepE00]; exact h1
  have hok := ok_of hc
  have hn12 := hok.n1
  refine ⟨fun h2 => ?_, fun h2 => ?_⟩
  · have h2 := of_decide_eq_true h2
    show some (trip (0, 0, 7)) = _
    unfold firstR; rw [if_neg (by omega), if_pos (by omega)]
  have h2 := of_decide_eq_false h2
  refine ⟨fun h3 => ?_, fun h3 => ?_⟩
  · have h3 := of_decide_eq_true h3
    show some (trip (0, 0, 7)) = _
    unfold firstR; rw [if_neg (by omega), if_pos (by omega)]
  have h3 := of_decide_eq_false h3
  have hfin : firstR b s day = (match firstF b s day b.tides.length 0 with | some x => ((x.1 : Int), x.2, 0) | none => (0, 0, 9)) := by
    unfold firstR; rw [if_neg (by omega), if_neg (by omega)]
  refine ⟨[2, 9, 32, 33, 34], 3, [], fun σ => ∃ i : Nat, i ≤ b.tides.length ∧ firstF b s day b.tides.length 0 = firstF b s day (b.tides.length - i) i ∧
    σ = ⟨[(2, .int .i64 day), (9, .loc 2 0), (32, .list 5 (b.tides.map Ti.enc)), (33, .int .i64 (b.tides.map Ti.enc).length), (34, .int .i64 i)], [.flat false b.enc, .flat false s.enc, .flat false (b.enc ++ s.enc)], .non⟩, fun σ => (1000 - slotI 34 σ).toNat, rfl, ⟨rfl, rfl⟩, ⟨0, Nat.zero_le _, rfl, rfl⟩, ?_⟩
  rintro σ ⟨i, hi, hf, rfl⟩
  refine ⟨fun h4 => ?_, fun h4 => ?_⟩
  · have h4 := of_decide_eq_true h4
    rw [List.length_map] at h4
    have hi' : i < b.tides.length := by omega
    have hrow : (b.tides.map Ti.enc)[((i : Int)).toNat]? = some (b.tides[i].enc) := by simp [hi']
    rw [firstF_step b s day hi'] at hf
    refine ⟨by omega, _, hrow, ?_⟩
    refine ⟨fun h5 => ?_, fun h5 => ?_⟩
    · have h5 := of_decide_eq_true h5
      rw [if_neg (by omega)] at hf
      refine ⟨_, wrap64 (by omega) (by omega), ?_⟩
      refine ⟨⟨rfl, rfl⟩, ⟨i + 1, hi', hf, rfl⟩, ?_⟩
      show (1000 - ((i : Int) + 1)).toNat < (1000 - (i : Int)).toNat
      omega
    · have h5 := of_decide_eq_false h5
      refine ⟨_, rfl, _, den68 b s hok i hi', ?_⟩
      refine ⟨fun h6 => ?_, fun h6 => ?_⟩
      · have h6 := of_decide_eq_true h6
        rw [if_pos ⟨by omega, h6⟩] at hf
        show some (trip ((i : Int), leastR b s b.tides[i], 0)) = _
        rw [hfin, hf]
      · have h6 := of_decide_eq_false h6
        rw [if_neg (fun h => h6 h.2)] at hf
        refine ⟨_, wrap64 (by omega) (by omega), ?_⟩
        refine ⟨⟨rfl, rfl⟩, ⟨i + 1, hi', hf, rfl⟩, ?_⟩
        show (1000 - ((i : Int) + 1)).toNat < (1000 - (i : Int)).toNat
        omega
  · have h4 := of_decide_eq_false h4
    rw [List.length_map] at h4
    have hil : i = b.tides.length := by omega
    subst hil
    show some (trip (0, 0, 9)) = _
    rw [hfin, hf, Nat.sub_self]; rfl

theorem ranged_day (day : Int) : bdE ⟨day, day, 0, 40000⟩ = if day < 0 ∨ day > 40000 then 7 else 0 := by
  unfold bdE Bd.out Bd.bad
  by_cases h : day < 0 ∨ day > 40000
  · rw [if_pos h, show (decide (min day day < 0) || decide (max day day > 40000)) = true by simp; omega]
  · rw [if_neg h, show (decide (min day day < 0) || decide (max day day > 40000)) = false by simp; omega]; simp

end Go.Proofs.Tide

namespace Go.Proofs.Tide
open Go.V Go.Proofs Go.Proofs.Top

/-- The first number, of those from n on, for which p does not hold; it looks k times. -/
def seek (p : Int → Bool) : Nat → Int → Int
  | 0, n => n
  | k + 1, n => if p n = true then seek p k (n + 1) else n

theorem seek_spec (p : Int → Bool) : ∀ (k : Nat) (n m : Int), n ≤ m → m ≤ n + k → p m = false → p (seek p k n) = false ∧ n ≤ seek p k n ∧ seek p k n ≤ m ∧ ∀ j, n ≤ j → j < seek p k n → p j = true
  | 0, n, m, h1, h2, h3 => by
    have : m = n := by omega
    subst this
    exact ⟨h3, Int.le_refl _, Int.le_refl _, fun j h4 h5 => by simp only [seek] at h5; omega⟩
  | k + 1, n, m, h1, h2, h3 => by
    simp only [seek]
    by_cases hp : p n = true
    · rw [if_pos hp]
      have hne : n ≠ m := fun e => by rw [e, h3] at hp; cases hp
      obtain ⟨h4, h5, h6, h7⟩ := seek_spec p k (n + 1) m (by omega) (by omega) h3
      refine ⟨h4, by omega, h6, fun j h8 h9 => ?_⟩
      by_cases hj : j = n
      · rw [hj]; exact hp
      · exact h7 j (by omega) h9
    · rw [if_neg hp]
      exact ⟨by simpa using hp, Int.le_refl _, h1, fun j h4 h5 => by omega⟩

theorem seek_unique (p : Int → Bool) {k : Nat} {n m j : Int} (h1 : n ≤ m) (h2 : m ≤ n + k) (h3 : p m = false) (h4 : n ≤ j) (h5 : p j = false) (h6 : ∀ i, n ≤ i → i < j → p i = true) : j = seek p k n := by
  obtain ⟨a1, a2, a3, a4⟩ := seek_spec p k n m h1 h2 h3
  rcases Int.lt_trichotomy j (seek p k n) with h | h | h
  · rw [a4 j h4 h] at h5; cases h5
  · exact h
  · rw [h6 _ a2 h] at a1; cases a1

theorem within_iff {b : Be} {k n : Int} {x : Bx} : withinR b k x n = true ↔ b.marks.lo ≤ (reachR k x n 0).lo ∧ (reachR k x n 0).hi ≤ b.marks.hi := by
  unfold withinR
  rw [Bool.and_eq_true, decide_eq_true_iff, decide_eq_true_iff]

theorem within_not {b : Be} {k n : Int} {x : Bx} : withinR b k x n = false ↔ ¬ (b.marks.lo ≤ (reachR k x n 0).lo ∧ (reachR k x n 0).hi ≤ b.marks.hi) := by
  rw [← within_iff]; simp

structure Bx.Fine (x : Bx) : Prop where
  small : x.Small
  ord : x.Ord
  sl : x.slope.lo ≤ x.slope.hi

theorem Ok.fine {b : Be} {s : Sh} (h : Ok b s) (i : Nat) (hi : i < b.tides.length) : (boxOf b s b.tides[i]).Fine := ⟨h.small i hi, h.ord i hi, h.slope.2.1⟩

def Bx.put0 (x : Bx) (m : Int) : Bx := ⟨⟨m, m⟩, x.draft, x.height, x.wind⟩
def Bx.put1 (x : Bx) (m : Int) : Bx := ⟨x.slope, ⟨m, m⟩, x.height, x.wind⟩
def Bx.put2 (x : Bx) (m : Int) : Bx := ⟨x.slope, x.draft, ⟨m, m⟩, x.wind⟩
def Bx.put3 (x : Bx) (m : Int) : Bx := ⟨x.slope, x.draft, x.height, ⟨m, m⟩⟩

theorem Bx.Fine.put0 {x : Bx} (h : x.Fine) {m : Int} (h1 : x.slope.lo ≤ m) (h2 : m ≤ x.slope.hi) : (x.put0 m).Fine := by
  obtain ⟨⟨a1, a2, a3, a4, a5, a6, a7, a8, b1, b2, b3, b4, b5, b6, b7, b8⟩, ⟨c1, c2, c3, c4, c5⟩, c6⟩ := h
  refine ⟨?_, ?_, ?_⟩
  · constructor <;> simp only [Bx.put0] <;> omega
  · constructor <;> simp only [Bx.put0] <;> omega
  · simp only [Bx.put0]; omega

theorem miss0 {b : Be} {k n : Int} {x : Bx} (h : x.Fine) (hw : withinR b k x n = false) : ∃ m, x.slope.lo ≤ m ∧ m ≤ x.slope.hi ∧ withinR b k (x.put0 m) n = false := by
  have hle : x.slope.lo ≤ x.slope.hi := h.sl
  cases h1 : withinR b k (x.put0 x.slope.lo) n with
  | false => exact ⟨_, Int.le_refl _, hle, h1⟩
  | true =>
    cases h2 : withinR b k (x.put0 x.slope.hi) n with
    | false => exact ⟨_, hle, Int.le_refl _, h2⟩
    | true =>
      exfalso
      rw [within_not] at hw
      rw [within_iff] at h1 h2
      simp only [reachR, Bx.put0] at hw h1 h2
      omega

theorem Bx.Fine.put1 {x : Bx} (h : x.Fine) {m : Int} (h1 : x.draft.lo ≤ m) (h2 : m ≤ x.draft.hi) : (x.put1 m).Fine := by
  obtain ⟨⟨a1, a2, a3, a4, a5, a6, a7, a8, b1, b2, b3, b4, b5, b6, b7, b8⟩, ⟨c1, c2, c3, c4, c5⟩, c6⟩ := h
  refine ⟨?_, ?_, ?_⟩
  · constructor <;> simp only [Bx.put1] <;> omega
  · constructor <;> simp only [Bx.put1] <;> omega
  · simp only [Bx.put1]; omega

theorem miss1 {b : Be} {k n : Int} {x : Bx} (h : x.Fine) (hw : withinR b k x n = false) : ∃ m, x.draft.lo ≤ m ∧ m ≤ x.draft.hi ∧ withinR b k (x.put1 m) n = false := by
  have hle : x.draft.lo ≤ x.draft.hi := h.ord.d
  cases h1 : withinR b k (x.put1 x.draft.lo) n with
  | false => exact ⟨_, Int.le_refl _, hle, h1⟩
  | true =>
    cases h2 : withinR b k (x.put1 x.draft.hi) n with
    | false => exact ⟨_, hle, Int.le_refl _, h2⟩
    | true =>
      exfalso
      rw [within_not] at hw
      rw [within_iff] at h1 h2
      simp only [reachR, Bx.put1] at hw h1 h2
      omega

theorem Bx.Fine.put2 {x : Bx} (h : x.Fine) {m : Int} (h1 : x.height.lo ≤ m) (h2 : m ≤ x.height.hi) : (x.put2 m).Fine := by
  obtain ⟨⟨a1, a2, a3, a4, a5, a6, a7, a8, b1, b2, b3, b4, b5, b6, b7, b8⟩, ⟨c1, c2, c3, c4, c5⟩, c6⟩ := h
  refine ⟨?_, ?_, ?_⟩
  · constructor <;> simp only [Bx.put2] <;> omega
  · constructor <;> simp only [Bx.put2] <;> omega
  · simp only [Bx.put2]; omega

theorem miss2 {b : Be} {k n : Int} {x : Bx} (h : x.Fine) (hw : withinR b k x n = false) : ∃ m, x.height.lo ≤ m ∧ m ≤ x.height.hi ∧ withinR b k (x.put2 m) n = false := by
  have hle : x.height.lo ≤ x.height.hi := h.ord.h
  cases h1 : withinR b k (x.put2 x.height.lo) n with
  | false => exact ⟨_, Int.le_refl _, hle, h1⟩
  | true =>
    cases h2 : withinR b k (x.put2 x.height.hi) n with
    | false => exact ⟨_, hle, Int.le_refl _, h2⟩
    | true =>
      exfalso
      rw [within_not] at hw
      rw [within_iff] at h1 h2
      simp only [reachR, Bx.put2] at hw h1 h2
      omega

theorem Bx.Fine.put3 {x : Bx} (h : x.Fine) {m : Int} (h1 : x.wind.lo ≤ m) (h2 : m ≤ x.wind.hi) : (x.put3 m).Fine := by
  obtain ⟨⟨a1, a2, a3, a4, a5, a6, a7, a8, b1, b2, b3, b4, b5, b6, b7, b8⟩, ⟨c1, c2, c3, c4, c5⟩, c6⟩ := h
  refine ⟨?_, ?_, ?_⟩
  · constructor <;> simp only [Bx.put3] <;> omega
  · constructor <;> simp only [Bx.put3] <;> omega
  · simp only [Bx.put3]; omega

theorem miss3 {b : Be} {k n : Int} {x : Bx} (h : x.Fine) (hw : withinR b k x n = false) : ∃ m, x.wind.lo ≤ m ∧ m ≤ x.wind.hi ∧ withinR b k (x.put3 m) n = false := by
  have hle : x.wind.lo ≤ x.wind.hi := h.ord.w
  cases h1 : withinR b k (x.put3 x.wind.lo) n with
  | false => exact ⟨_, Int.le_refl _, hle, h1⟩
  | true =>
    cases h2 : withinR b k (x.put3 x.wind.hi) n with
    | false => exact ⟨_, hle, Int.le_refl _, h2⟩
    | true =>
      exfalso
      rw [within_not] at hw
      rw [within_iff] at h1 h2
      simp only [reachR, Bx.put3] at hw h1 h2
      omega

/-- The numbers of the first truth in which she misses, one by one; of the slope, the draft, the height and the wind. -/
def num0 (b : Be) (k n : Int) (x : Bx) : Int := seek (fun m => withinR b k (x.put0 m) n) (x.slope.hi - x.slope.lo).toNat x.slope.lo
def num1 (b : Be) (k n : Int) (x : Bx) : Int := seek (fun m => withinR b k (x.put1 m) n) (x.draft.hi - x.draft.lo).toNat x.draft.lo
def num2 (b : Be) (k n : Int) (x : Bx) : Int := seek (fun m => withinR b k (x.put2 m) n) (x.height.hi - x.height.lo).toNat x.height.lo
def num3 (b : Be) (k n : Int) (x : Bx) : Int := seek (fun m => withinR b k (x.put3 m) n) (x.wind.hi - x.wind.lo).toNat x.wind.lo

theorem num0_spec {b : Be} {k n : Int} {x : Bx} (h : x.Fine) (hw : withinR b k x n = false) : withinR b k (x.put0 (num0 b k n x)) n = false ∧ x.slope.lo ≤ num0 b k n x ∧ num0 b k n x ≤ x.slope.hi ∧ ∀ j, x.slope.lo ≤ j → j < num0 b k n x → withinR b k (x.put0 j) n = true := by
  obtain ⟨m, h1, h2, h3⟩ := miss0 h hw
  obtain ⟨a1, a2, a3, a4⟩ := seek_spec (fun m => withinR b k (x.put0 m) n) (x.slope.hi - x.slope.lo).toNat x.slope.lo m h1 (by omega) h3
  exact ⟨a1, a2, Int.le_trans a3 h2, a4⟩

theorem num0_eq {b : Be} {k n : Int} {x : Bx} (h : x.Fine) (hw : withinR b k x n = false) {j : Int} (h4 : x.slope.lo ≤ j) (h5 : withinR b k (x.put0 j) n = false) (h6 : ∀ i, x.slope.lo ≤ i → i < j → withinR b k (x.put0 i) n = true) : j = num0 b k n x := by
  obtain ⟨m, h1, h2, h3⟩ := miss0 h hw
  exact seek_unique (fun m => withinR b k (x.put0 m) n) h1 (by omega) h3 h4 h5 h6

theorem num1_spec {b : Be} {k n : Int} {x : Bx} (h : x.Fine) (hw : withinR b k x n = false) : withinR b k (x.put1 (num1 b k n x)) n = false ∧ x.draft.lo ≤ num1 b k n x ∧ num1 b k n x ≤ x.draft.hi ∧ ∀ j, x.draft.lo ≤ j → j < num1 b k n x → withinR b k (x.put1 j) n = true := by
  obtain ⟨m, h1, h2, h3⟩ := miss1 h hw
  obtain ⟨a1, a2, a3, a4⟩ := seek_spec (fun m => withinR b k (x.put1 m) n) (x.draft.hi - x.draft.lo).toNat x.draft.lo m h1 (by omega) h3
  exact ⟨a1, a2, Int.le_trans a3 h2, a4⟩

theorem num1_eq {b : Be} {k n : Int} {x : Bx} (h : x.Fine) (hw : withinR b k x n = false) {j : Int} (h4 : x.draft.lo ≤ j) (h5 : withinR b k (x.put1 j) n = false) (h6 : ∀ i, x.draft.lo ≤ i → i < j → withinR b k (x.put1 i) n = true) : j = num1 b k n x := by
  obtain ⟨m, h1, h2, h3⟩ := miss1 h hw
  exact seek_unique (fun m => withinR b k (x.put1 m) n) h1 (by omega) h3 h4 h5 h6

theorem num2_spec {b : Be} {k n : Int} {x : Bx} (h : x.Fine) (hw : withinR b k x n = false) : withinR b k (x.put2 (num2 b k n x)) n = false ∧ x.height.lo ≤ num2 b k n x ∧ num2 b k n x ≤ x.height.hi ∧ ∀ j, x.height.lo ≤ j → j < num2 b k n x → withinR b k (x.put2 j) n = true := by
  obtain ⟨m, h1, h2, h3⟩ := miss2 h hw
  obtain ⟨a1, a2, a3, a4⟩ := seek_spec (fun m => withinR b k (x.put2 m) n) (x.height.hi - x.height.lo).toNat x.height.lo m h1 (by omega) h3
  exact ⟨a1, a2, Int.le_trans a3 h2, a4⟩

theorem num2_eq {b : Be} {k n : Int} {x : Bx} (h : x.Fine) (hw : withinR b k x n = false) {j : Int} (h4 : x.height.lo ≤ j) (h5 : withinR b k (x.put2 j) n = false) (h6 : ∀ i, x.height.lo ≤ i → i < j → withinR b k (x.put2 i) n = true) : j = num2 b k n x := by
  obtain ⟨m, h1, h2, h3⟩ := miss2 h hw
  exact seek_unique (fun m => withinR b k (x.put2 m) n) h1 (by omega) h3 h4 h5 h6

theorem num3_spec {b : Be} {k n : Int} {x : Bx} (h : x.Fine) (hw : withinR b k x n = false) : withinR b k (x.put3 (num3 b k n x)) n = false ∧ x.wind.lo ≤ num3 b k n x ∧ num3 b k n x ≤ x.wind.hi ∧ ∀ j, x.wind.lo ≤ j → j < num3 b k n x → withinR b k (x.put3 j) n = true := by
  obtain ⟨m, h1, h2, h3⟩ := miss3 h hw
  obtain ⟨a1, a2, a3, a4⟩ := seek_spec (fun m => withinR b k (x.put3 m) n) (x.wind.hi - x.wind.lo).toNat x.wind.lo m h1 (by omega) h3
  exact ⟨a1, a2, Int.le_trans a3 h2, a4⟩

theorem num3_eq {b : Be} {k n : Int} {x : Bx} (h : x.Fine) (hw : withinR b k x n = false) {j : Int} (h4 : x.wind.lo ≤ j) (h5 : withinR b k (x.put3 j) n = false) (h6 : ∀ i, x.wind.lo ≤ i → i < j → withinR b k (x.put3 i) n = true) : j = num3 b k n x := by
  obtain ⟨m, h1, h2, h3⟩ := miss3 h hw
  exact seek_unique (fun m => withinR b k (x.put3 m) n) h1 (by omega) h3 h4 h5 h6

def cut1 (b : Be) (k n : Int) (x : Bx) : Bx := x.put0 (num0 b k n x)
def cut2 (b : Be) (k n : Int) (x : Bx) : Bx := (cut1 b k n x).put1 (num1 b k n (cut1 b k n x))
def cut3 (b : Be) (k n : Int) (x : Bx) : Bx := (cut2 b k n x).put2 (num2 b k n (cut2 b k n x))
def cut4 (b : Be) (k n : Int) (x : Bx) : Bx := (cut3 b k n x).put3 (num3 b k n (cut3 b k n x))

structure Cuts (b : Be) (k n : Int) (x : Bx) : Prop where
  f0 : x.Fine
  w0 : withinR b k x n = false
  f1 : (cut1 b k n x).Fine
  w1 : withinR b k (cut1 b k n x) n = false
  f2 : (cut2 b k n x).Fine
  w2 : withinR b k (cut2 b k n x) n = false
  f3 : (cut3 b k n x).Fine
  w3 : withinR b k (cut3 b k n x) n = false
  f4 : (cut4 b k n x).Fine
  w4 : withinR b k (cut4 b k n x) n = false

theorem cuts {b : Be} {k n : Int} {x : Bx} (h : x.Fine) (hw : withinR b k x n = false) : Cuts b k n x := by
  obtain ⟨w1, a1, b1, _⟩ := num0_spec h hw
  have f1 := h.put0 a1 b1
  obtain ⟨w2, a2, b2, _⟩ := num1_spec f1 w1
  have f2 := f1.put1 a2 b2
  obtain ⟨w3, a3, b3, _⟩ := num2_spec f2 w2
  have f3 := f2.put2 a3 b3
  obtain ⟨w4, a4, b4, _⟩ := num3_spec f3 w3
  exact ⟨h, hw, f1, w1, f2, w2, f3, w3, f3.put3 a4 b4, w4⟩

/-- The first truth in which she misses. -/
def missT (b : Be) (k n : Int) (x : Bx) : Tr := ⟨(cut4 b k n x).slope.lo, (cut4 b k n x).draft.lo, (cut4 b k n x).height.lo, (cut4 b k n x).wind.lo⟩

/-- What Misses returns. -/
def missesR (b : Be) (s : Sh) (t n : Int) : Tr × Int × Int :=
  if stepE b s t n ≠ 0 then (⟨0, 0, 0, 0⟩, 0, stepE b s t n) else match b.tides[t.toNat]? with
    | none => (⟨0, 0, 0, 0⟩, 0, 0)
    | some x => if withinR b s.sink (boxOf b s x) n = true then (⟨0, 0, 0, 0⟩, 0, 9) else (missT b s.sink n (boxOf b s x), atR s.sink (missT b s.sink n (boxOf b s x)) n 0, 0)
def missD (x : Tr × Int × Int) : D := .tup [.agg x.1.enc, .int .i64 x.2.1, .int .i64 x.2.2]

end Go.Proofs.Tide

namespace Go.Proofs.Tide
open Go.V Go.Proofs Go.Proofs.Top

theorem fine_bounds {x : Bx} (h : x.Fine) : 0 < x.slope.lo ∧ x.slope.hi ≤ 1000000 ∧ -1000000 ≤ x.draft.lo ∧ x.draft.hi ≤ 1000000 ∧ -1000000 ≤ x.height.lo ∧ x.height.hi ≤ 1000000 ∧ -1000000 ≤ x.wind.lo ∧ x.wind.hi ≤ 1000000 := by
  obtain ⟨⟨a1, a2, a3, a4, a5, a6, a7, a8, b1, b2, b3, b4, b5, b6, b7, b8⟩, _, _⟩ := h
  exact ⟨a1, a4, a5, a8, b1, b4, b5, b8⟩

/-- The numbers that are found, up to the i-th. -/
def fnd (b : Be) (k n : Int) (x : Bx) : Nat → List D
  | 0 => [.int .i64 0, .int .i64 0, .int .i64 0, .int .i64 0]
  | 1 => [.int .i64 (cut1 b k n x).slope.lo, .int .i64 0, .int .i64 0, .int .i64 0]
  | 2 => [.int .i64 (cut2 b k n x).slope.lo, .int .i64 (cut2 b k n x).draft.lo, .int .i64 0, .int .i64 0]
  | 3 => [.int .i64 (cut3 b k n x).slope.lo, .int .i64 (cut3 b k n x).draft.lo, .int .i64 (cut3 b k n x).height.lo, .int .i64 0]
  | _ => (missT b k n x).enc
def cutN (b : Be) (k n : Int) (x : Bx) : Nat → Bx
  | 0 => x
  | 1 => cut1 b k n x
  | 2 => cut2 b k n x
  | 3 => cut3 b k n x
  | _ => cut4 b k n x

set_option maxHeartbeats 4000000 in
theorem den32 (b : Be) (s : Sh) (t n : Int) : DN 32 [.agg b.enc, .agg s.enc, .int .i64 t, .int .i64 n] (missD (missesR b s t n)) := by
  refine mk Tryz.func32 Tryz.call32 rfl rfl ?_
  refine ⟨_, rfl, _, den47 b s t n, ?_⟩
  refine ⟨fun h1 => ?_, fun h1 => ?_⟩
  · have h1 : (stepE b s t n != 0) = true := h1
    have h1 : stepE b s t n ≠ 0 := by simpa using h1
    show some (missD (⟨0, 0, 0, 0⟩, 0, stepE b s t n)) = _
    unfold missesR; rw [if_pos h1]
  have h1 : (stepE b s t n != 0) = false := h1
  have h1 : stepE b s t n = 0 := by simpa using h1
  obtain ⟨hok, ht0, ht1, hn0, hn1⟩ := stepE_zero h1
  obtain ⟨i, rfl⟩ : ∃ i : Nat, t = i := ⟨t.toNat, by omega⟩
  have hi : i < b.tides.length := by omega
  have hw := hok.weight hn0 hn1
  have hget : b.tides[((i : Int)).toNat]? = some b.tides[i] := by simp [hi]
  have hres : missesR b s i n = if withinR b s.sink (boxOf b s b.tides[i]) n = true then (⟨0, 0, 0, 0⟩, 0, 9) else (missT b s.sink n (boxOf b s b.tides[i]), atR s.sink (missT b s.sink n (boxOf b s b.tides[i])) n 0, 0) := by
    unfold missesR; rw [if_neg (by omega), hget]
  refine ⟨_, rfl, _, den49 b s i hi, ?_⟩
  have hfine := hok.fine i hi
  refine ⟨_, rfl, _, den67 b s _ hfine.small hfine.ord n hw.1 hw.2, ?_⟩
  refine ⟨fun h2 => ?_, fun h2 => ?_⟩
  · show some (missD (⟨0, 0, 0, 0⟩, 0, 9)) = _
    rw [hres, if_pos h2]
  rw [if_neg (by rw [h2]; decide)] at hres
  have hc := cuts hfine h2
  refine ⟨[3, 8, 11, 12, 13, 37, 38], 6, [], fun σ => ∃ j : Nat, j ≤ 4 ∧ σ = ⟨[(3, .int .i64 n), (8, .loc 2 0), (11, .loc 3 0), (12, .loc 4 0), (13, .loc 5 0), (37, .agg (boxOf b s b.tides[i]).enc), (38, .int .i64 j)],
    [.flat false b.enc, .flat false s.enc, .flat false [.int .i64 0, .int .i64 0, .int .i64 0, .int .i64 0], .flat false (b.enc ++ s.enc), .flat false (cutN b s.sink n (boxOf b s b.tides[i]) j).enc, .flat false (fnd b s.sink n (boxOf b s b.tides[i]) j)], .non⟩, fun σ => (4 - slotI 38 σ).toNat, rfl, ⟨rfl, rfl⟩, ⟨0, by omega, rfl⟩, ?_⟩
  rintro σ ⟨j, hj, rfl⟩
  refine ⟨fun h3 => ?_, fun h3 => ?_⟩
  · have h3 := of_decide_eq_true h3
    have hj' : j = 0 ∨ j = 1 ∨ j = 2 ∨ j = 3 := by omega
    rcases hj' with rfl | rfl | rfl | rfl
    · have hwj := hc.w0
      have hfj := hc.f0
      obtain ⟨n1, n2, n3, n4⟩ := num0_spec hfj hwj
      have hbd := fine_bounds hfj
      have hlo : (boxOf b s b.tides[i]).slope.lo = (boxOf b s b.tides[i]).slope.lo := rfl
      have hhi : (boxOf b s b.tides[i]).slope.hi = (boxOf b s b.tides[i]).slope.hi := rfl
      refine ⟨⟨by omega, by omega⟩, _, rfl, rfl, ?_⟩
      refine ⟨[3, 8, 11, 12, 13, 14, 15, 16, 37, 38], 7, [], fun σ => ∃ (m : Int) (z : Sp), (boxOf b s b.tides[i]).slope.lo ≤ m ∧ m ≤ num0 b s.sink n (boxOf b s b.tides[i]) ∧ σ = ⟨[(3, .int .i64 n), (8, .loc 2 0), (11, .loc 3 0), (12, .loc 4 0), (13, .loc 5 0), (14, .int .i64 (0 : Nat)), (15, .loc 6 0), (16, .int .i64 m), (37, .agg (boxOf b s b.tides[i]).enc), (38, .int .i64 (0 : Nat))],
        [.flat false b.enc, .flat false s.enc, .flat false [.int .i64 0, .int .i64 0, .int .i64 0, .int .i64 0], .flat false (b.enc ++ s.enc), .flat false (⟨z, (boxOf b s b.tides[i]).draft, (boxOf b s b.tides[i]).height, (boxOf b s b.tides[i]).wind⟩ : Bx).enc, .flat false (fnd b s.sink n (boxOf b s b.tides[i]) 0), .flat false (boxOf b s b.tides[i]).slope.enc], .non⟩,
        fun σ => (num0 b s.sink n (boxOf b s b.tides[i]) + 1 - slotI 16 σ).toNat, rfl, ⟨rfl, rfl⟩, ⟨_, (boxOf b s b.tides[i]).slope, Int.le_refl _, n2, rfl⟩, ?_⟩
      rintro σ ⟨m, z, hm0, hm1, rfl⟩
      refine ⟨fun h4 => ?_, fun h4 => ?_⟩
      · refine ⟨_, rfl, _, den70 m, ?_⟩
        refine ⟨⟨by omega, by omega⟩, _, rfl, ?_⟩
        refine ⟨Nat.le_of_ble_eq_true rfl, _, rfl, ?_⟩
        have hfp := hfj.put0 (m := m) (by omega) (by omega)
        refine ⟨_, rfl, _, den67 b s ((boxOf b s b.tides[i]).put0 m) hfp.small hfp.ord n hw.1 hw.2, ?_⟩
        refine ⟨fun h5 => ?_, fun h5 => ?_⟩
        · have h5 : withinR b s.sink ((boxOf b s b.tides[i]).put0 m) n = false := by simpa using h5
          have hmm : m = num0 b s.sink n (boxOf b s b.tides[i]) := num0_eq hfj hwj hm0 h5 fun q hq0 hq1 => n4 q hq0 (by omega)
          refine ⟨⟨by omega, by omega⟩, _, rfl, ?_⟩
          refine ⟨Nat.le_of_ble_eq_true rfl, _, rfl, ?_⟩
          subst hmm
          refine ⟨_, wrap64 (by omega) (by omega), ?_⟩
          refine ⟨⟨rfl, rfl⟩, ⟨1, by omega, rfl⟩, ?_⟩
          show (4 - (((0 : Nat) : Int) + 1)).toNat < (4 - ((0 : Nat) : Int)).toNat
          decide
        · have h5 : withinR b s.sink ((boxOf b s b.tides[i]).put0 m) n = true := by simpa using h5
          have hne : m ≠ num0 b s.sink n (boxOf b s b.tides[i]) := fun e => by rw [e, n1] at h5; cases h5
          refine ⟨_, wrap64 (by omega) (by omega), ?_⟩
          refine ⟨⟨rfl, rfl⟩, ⟨m + 1, ⟨m, m⟩, by omega, by omega, rfl⟩, ?_⟩
          show (num0 b s.sink n (boxOf b s b.tides[i]) + 1 - (m + 1)).toNat < (num0 b s.sink n (boxOf b s b.tides[i]) + 1 - m).toNat
          omega
      · have h4 := of_decide_eq_false h4
        exfalso
        have h4 : ¬ m ≤ (boxOf b s b.tides[i]).slope.hi := h4
        omega
    · have hwj := hc.w1
      have hfj := hc.f1
      obtain ⟨n1, n2, n3, n4⟩ := num1_spec hfj hwj
      have hbd := fine_bounds hfj
      have hlo : (cut1 b s.sink n (boxOf b s b.tides[i])).draft.lo = (boxOf b s b.tides[i]).draft.lo := rfl
      have hhi : (cut1 b s.sink n (boxOf b s b.tides[i])).draft.hi = (boxOf b s b.tides[i]).draft.hi := rfl
      refine ⟨⟨by omega, by omega⟩, _, rfl, rfl, ?_⟩
      refine ⟨[3, 8, 11, 12, 13, 14, 15, 16, 37, 38], 7, [], fun σ => ∃ (m : Int) (z : Sp), (cut1 b s.sink n (boxOf b s b.tides[i])).draft.lo ≤ m ∧ m ≤ num1 b s.sink n (cut1 b s.sink n (boxOf b s b.tides[i])) ∧ σ = ⟨[(3, .int .i64 n), (8, .loc 2 0), (11, .loc 3 0), (12, .loc 4 0), (13, .loc 5 0), (14, .int .i64 (1 : Nat)), (15, .loc 6 0), (16, .int .i64 m), (37, .agg (boxOf b s b.tides[i]).enc), (38, .int .i64 (1 : Nat))],
        [.flat false b.enc, .flat false s.enc, .flat false [.int .i64 0, .int .i64 0, .int .i64 0, .int .i64 0], .flat false (b.enc ++ s.enc), .flat false (⟨(cut1 b s.sink n (boxOf b s b.tides[i])).slope, z, (cut1 b s.sink n (boxOf b s b.tides[i])).height, (cut1 b s.sink n (boxOf b s b.tides[i])).wind⟩ : Bx).enc, .flat false (fnd b s.sink n (boxOf b s b.tides[i]) 1), .flat false (cut1 b s.sink n (boxOf b s b.tides[i])).draft.enc], .non⟩,
        fun σ => (num1 b s.sink n (cut1 b s.sink n (boxOf b s b.tides[i])) + 1 - slotI 16 σ).toNat, rfl, ⟨rfl, rfl⟩, ⟨_, (cut1 b s.sink n (boxOf b s b.tides[i])).draft, Int.le_refl _, n2, rfl⟩, ?_⟩
      rintro σ ⟨m, z, hm0, hm1, rfl⟩
      refine ⟨fun h4 => ?_, fun h4 => ?_⟩
      · refine ⟨_, rfl, _, den70 m, ?_⟩
        refine ⟨⟨by omega, by omega⟩, _, rfl, ?_⟩
        refine ⟨Nat.le_of_ble_eq_true rfl, _, rfl, ?_⟩
        have hfp := hfj.put1 (m := m) (by omega) (by omega)
        refine ⟨_, rfl, _, den67 b s ((cut1 b s.sink n (boxOf b s b.tides[i])).put1 m) hfp.small hfp.ord n hw.1 hw.2, ?_⟩
        refine ⟨fun h5 => ?_, fun h5 => ?_⟩
        · have h5 : withinR b s.sink ((cut1 b s.sink n (boxOf b s b.tides[i])).put1 m) n = false := by simpa using h5
          have hmm : m = num1 b s.sink n (cut1 b s.sink n (boxOf b s b.tides[i])) := num1_eq hfj hwj hm0 h5 fun q hq0 hq1 => n4 q hq0 (by omega)
          refine ⟨⟨by omega, by omega⟩, _, rfl, ?_⟩
          refine ⟨Nat.le_of_ble_eq_true rfl, _, rfl, ?_⟩
          subst hmm
          refine ⟨_, wrap64 (by omega) (by omega), ?_⟩
          refine ⟨⟨rfl, rfl⟩, ⟨2, by omega, rfl⟩, ?_⟩
          show (4 - (((1 : Nat) : Int) + 1)).toNat < (4 - ((1 : Nat) : Int)).toNat
          decide
        · have h5 : withinR b s.sink ((cut1 b s.sink n (boxOf b s b.tides[i])).put1 m) n = true := by simpa using h5
          have hne : m ≠ num1 b s.sink n (cut1 b s.sink n (boxOf b s b.tides[i])) := fun e => by rw [e, n1] at h5; cases h5
          refine ⟨_, wrap64 (by omega) (by omega), ?_⟩
          refine ⟨⟨rfl, rfl⟩, ⟨m + 1, ⟨m, m⟩, by omega, by omega, rfl⟩, ?_⟩
          show (num1 b s.sink n (cut1 b s.sink n (boxOf b s b.tides[i])) + 1 - (m + 1)).toNat < (num1 b s.sink n (cut1 b s.sink n (boxOf b s b.tides[i])) + 1 - m).toNat
          omega
      · have h4 := of_decide_eq_false h4
        exfalso
        have h4 : ¬ m ≤ (cut1 b s.sink n (boxOf b s b.tides[i])).draft.hi := h4
        omega
    · have hwj := hc.w2
      have hfj := hc.f2
      obtain ⟨n1, n2, n3, n4⟩ := num2_spec hfj hwj
      have hbd := fine_bounds hfj
      have hlo : (cut2 b s.sink n (boxOf b s b.tides[i])).height.lo = (boxOf b s b.tides[i]).height.lo := rfl
      have hhi : (cut2 b s.sink n (boxOf b s b.tides[i])).height.hi = (boxOf b s b.tides[i]).height.hi := rfl
      refine ⟨⟨by omega, by omega⟩, _, rfl, rfl, ?_⟩
      refine ⟨[3, 8, 11, 12, 13, 14, 15, 16, 37, 38], 7, [], fun σ => ∃ (m : Int) (z : Sp), (cut2 b s.sink n (boxOf b s b.tides[i])).height.lo ≤ m ∧ m ≤ num2 b s.sink n (cut2 b s.sink n (boxOf b s b.tides[i])) ∧ σ = ⟨[(3, .int .i64 n), (8, .loc 2 0), (11, .loc 3 0), (12, .loc 4 0), (13, .loc 5 0), (14, .int .i64 (2 : Nat)), (15, .loc 6 0), (16, .int .i64 m), (37, .agg (boxOf b s b.tides[i]).enc), (38, .int .i64 (2 : Nat))],
        [.flat false b.enc, .flat false s.enc, .flat false [.int .i64 0, .int .i64 0, .int .i64 0, .int .i64 0], .flat false (b.enc ++ s.enc), .flat false (⟨(cut2 b s.sink n (boxOf b s b.tides[i])).slope, (cut2 b s.sink n (boxOf b s b.tides[i])).draft, z, (cut2 b s.sink n (boxOf b s b.tides[i])).wind⟩ : Bx).enc, .flat false (fnd b s.sink n (boxOf b s b.tides[i]) 2), .flat false (cut2 b s.sink n (boxOf b s b.tides[i])).height.enc], .non⟩,
        fun σ => (num2 b s.sink n (cut2 b s.sink n (boxOf b s b.tides[i])) + 1 - slotI 16 σ).toNat, rfl, ⟨rfl, rfl⟩, ⟨_, (cut2 b s.sink n (boxOf b s b.tides[i])).height, Int.le_refl _, n2, rfl⟩, ?_⟩
      rintro σ ⟨m, z, hm0, hm1, rfl⟩
      refine ⟨fun h4 => ?_, fun h4 => ?_⟩
      · refine ⟨_, rfl, _, den70 m, ?_⟩
        refine ⟨⟨by omega, by omega⟩, _, rfl, ?_⟩
        refine ⟨Nat.le_of_ble_eq_true rfl, _, rfl, ?_⟩
        have hfp := hfj.put2 (m := m) (by omega) (by omega)
        refine ⟨_, rfl, _, den67 b s ((cut2 b s.sink n (boxOf b s b.tides[i])).put2 m) hfp.small hfp.ord n hw.1 hw.2, ?_⟩
        refine ⟨fun h5 => ?_, fun h5 => ?_⟩
        · have h5 : withinR b s.sink ((cut2 b s.sink n (boxOf b s b.tides[i])).put2 m) n = false := by simpa using h5
          have hmm : m = num2 b s.sink n (cut2 b s.sink n (boxOf b s b.tides[i])) := num2_eq hfj hwj hm0 h5 fun q hq0 hq1 => n4 q hq0 (by omega)
          refine ⟨⟨by omega, by omega⟩, _, rfl, ?_⟩
          refine ⟨Nat.le_of_ble_eq_true rfl, _, rfl, ?_⟩
          subst hmm
          refine ⟨_, wrap64 (by omega) (by omega), ?_⟩
          refine ⟨⟨rfl, rfl⟩, ⟨3, by omega, rfl⟩, ?_⟩
          show (4 - (((2 : Nat) : Int) + 1)).toNat < (4 - ((2 : Nat) : Int)).toNat
          decide
        · have h5 : withinR b s.sink ((cut2 b s.sink n (boxOf b s b.tides[i])).put2 m) n = true := by simpa using h5
          have hne : m ≠ num2 b s.sink n (cut2 b s.sink n (boxOf b s b.tides[i])) := fun e => by rw [e, n1] at h5; cases h5
          refine ⟨_, wrap64 (by omega) (by omega), ?_⟩
          refine ⟨⟨rfl, rfl⟩, ⟨m + 1, ⟨m, m⟩, by omega, by omega, rfl⟩, ?_⟩
          show (num2 b s.sink n (cut2 b s.sink n (boxOf b s b.tides[i])) + 1 - (m + 1)).toNat < (num2 b s.sink n (cut2 b s.sink n (boxOf b s b.tides[i])) + 1 - m).toNat
          omega
      · have h4 := of_decide_eq_false h4
        exfalso
        have h4 : ¬ m ≤ (cut2 b s.sink n (boxOf b s b.tides[i])).height.hi := h4
        omega
    · have hwj := hc.w3
      have hfj := hc.f3
      obtain ⟨n1, n2, n3, n4⟩ := num3_spec hfj hwj
      have hbd := fine_bounds hfj
      have hlo : (cut3 b s.sink n (boxOf b s b.tides[i])).wind.lo = (boxOf b s b.tides[i]).wind.lo := rfl
      have hhi : (cut3 b s.sink n (boxOf b s b.tides[i])).wind.hi = (boxOf b s b.tides[i]).wind.hi := rfl
      refine ⟨⟨by omega, by omega⟩, _, rfl, rfl, ?_⟩
      refine ⟨[3, 8, 11, 12, 13, 14, 15, 16, 37, 38], 7, [], fun σ => ∃ (m : Int) (z : Sp), (cut3 b s.sink n (boxOf b s b.tides[i])).wind.lo ≤ m ∧ m ≤ num3 b s.sink n (cut3 b s.sink n (boxOf b s b.tides[i])) ∧ σ = ⟨[(3, .int .i64 n), (8, .loc 2 0), (11, .loc 3 0), (12, .loc 4 0), (13, .loc 5 0), (14, .int .i64 (3 : Nat)), (15, .loc 6 0), (16, .int .i64 m), (37, .agg (boxOf b s b.tides[i]).enc), (38, .int .i64 (3 : Nat))],
        [.flat false b.enc, .flat false s.enc, .flat false [.int .i64 0, .int .i64 0, .int .i64 0, .int .i64 0], .flat false (b.enc ++ s.enc), .flat false (⟨(cut3 b s.sink n (boxOf b s b.tides[i])).slope, (cut3 b s.sink n (boxOf b s b.tides[i])).draft, (cut3 b s.sink n (boxOf b s b.tides[i])).height, z⟩ : Bx).enc, .flat false (fnd b s.sink n (boxOf b s b.tides[i]) 3), .flat false (cut3 b s.sink n (boxOf b s b.tides[i])).wind.enc], .non⟩,
        fun σ => (num3 b s.sink n (cut3 b s.sink n (boxOf b s b.tides[i])) + 1 - slotI 16 σ).toNat, rfl, ⟨rfl, rfl⟩, ⟨_, (cut3 b s.sink n (boxOf b s b.tides[i])).wind, Int.le_refl _, n2, rfl⟩, ?_⟩
      rintro σ ⟨m, z, hm0, hm1, rfl⟩
      refine ⟨fun h4 => ?_, fun h4 => ?_⟩
      · refine ⟨_, rfl, _, den70 m, ?_⟩
        refine ⟨⟨by omega, by omega⟩, _, rfl, ?_⟩
        refine ⟨Nat.le_of_ble_eq_true rfl, _, rfl, ?_⟩
        have hfp := hfj.put3 (m := m) (by omega) (by omega)
        refine ⟨_, rfl, _, den67 b s ((cut3 b s.sink n (boxOf b s b.tides[i])).put3 m) hfp.small hfp.ord n hw.1 hw.2, ?_⟩
        refine ⟨fun h5 => ?_, fun h5 => ?_⟩
        · have h5 : withinR b s.sink ((cut3 b s.sink n (boxOf b s b.tides[i])).put3 m) n = false := by simpa using h5
          have hmm : m = num3 b s.sink n (cut3 b s.sink n (boxOf b s b.tides[i])) := num3_eq hfj hwj hm0 h5 fun q hq0 hq1 => n4 q hq0 (by omega)
          refine ⟨⟨by omega, by omega⟩, _, rfl, ?_⟩
          refine ⟨Nat.le_of_ble_eq_true rfl, _, rfl, ?_⟩
          subst hmm
          refine ⟨_, wrap64 (by omega) (by omega), ?_⟩
          refine ⟨⟨rfl, rfl⟩, ⟨4, by omega, rfl⟩, ?_⟩
          show (4 - (((3 : Nat) : Int) + 1)).toNat < (4 - ((3 : Nat) : Int)).toNat
          decide
        · have h5 : withinR b s.sink ((cut3 b s.sink n (boxOf b s b.tides[i])).put3 m) n = true := by simpa using h5
          have hne : m ≠ num3 b s.sink n (cut3 b s.sink n (boxOf b s b.tides[i])) := fun e => by rw [e, n1] at h5; cases h5
          refine ⟨_, wrap64 (by omega) (by omega), ?_⟩
          refine ⟨⟨rfl, rfl⟩, ⟨m + 1, ⟨m, m⟩, by omega, by omega, rfl⟩, ?_⟩
          show (num3 b s.sink n (cut3 b s.sink n (boxOf b s b.tides[i])) + 1 - (m + 1)).toNat < (num3 b s.sink n (cut3 b s.sink n (boxOf b s b.tides[i])) + 1 - m).toNat
          omega
      · have h4 := of_decide_eq_false h4
        exfalso
        have h4 : ¬ m ≤ (cut3 b s.sink n (boxOf b s b.tides[i])).wind.hi := h4
        omega
  · have h3 := of_decide_eq_false h3
    have : j = 4 := by omega
    subst this
    refine Or.inl ⟨by kernel_rfl, ?_⟩
    refine ⟨⟨by omega, by omega⟩, ?_⟩
    refine ⟨⟨by omega, by omega⟩, ?_⟩
    refine ⟨⟨by omega, by omega⟩, ?_⟩
    refine ⟨⟨by omega, by omega⟩, ?_⟩
    refine ⟨_, rfl, _, den51 b s n 0, ?_⟩
    have hbd := fine_bounds hc.f4
    have hsmall : (missT b s.sink n (boxOf b s b.tides[i])).Small := by
      have h5 := hc.f4.small
      exact ⟨h5.s0, h5.s1, h5.d0, h5.d1, h5.h0, h5.h1, h5.w0, h5.w1⟩
    refine ⟨_, rfl, _, den78 b s _ hsmall n 0 (by decide) (by decide) hw.1 hw.2, ?_⟩
    rw [hres]
    rfl

end Go.Proofs.Tide

namespace Go.Proofs.Tide
open Go.V Go.Proofs Go.Proofs.Top

end Go.Proofs.Tide

namespace Go.Proofs.Tide
open Go.V Go.Proofs Go.Proofs.Top

/-- A run, or a pull. -/
structure Pu where
  tide : Int
  ballast : Int
def Pu.enc (p : Pu) : List D := [.int .i64 p.tide, .int .i64 p.ballast]

/-- A run or a pull that has no error. -/
structure Pu.Ok (b : Be) (p : Pu) : Prop where
  t0 : 0 ≤ p.tide
  t1 : p.tide.toNat < b.tides.length
  n0 : 0 ≤ p.ballast
  n1 : p.ballast ≤ 40

def tideAt (b : Be) (p : Pu) : Ti := b.tides.getD p.tide.toNat ⟨0, ⟨0, 0⟩, ⟨0, 0⟩⟩
theorem tideAt_eq {b : Be} {p : Pu} (h : p.Ok b) : tideAt b p = b.tides[p.tide.toNat]'h.t1 := by
  unfold tideAt
  rw [List.getD_eq_getElem?_getD, List.getElem?_eq_getElem h.t1]; rfl

/-- By how much the water is higher than her draft, at least and at most. -/
def overR (b : Be) (s : Sh) (p : Pu) (bite : Int) : Sp :=
  ⟨(tideAt b p).height.lo + (tideAt b p).wind.lo - s.draft.hi + (bite - s.sink * p.ballast), (tideAt b p).height.hi + (tideAt b p).wind.hi - s.draft.lo + (bite - s.sink * p.ballast)⟩

structure Sp.Small (s : Sp) : Prop where
  a0 : -100000 ≤ s.lo
  a1 : s.lo ≤ 100000
  b0 : -100000 ≤ s.hi
  b1 : s.hi ≤ 100000

theorem Ok.weight' {b : Be} {s : Sh} (h : Ok b s) {n : Int} (h0 : 0 ≤ n) (h1 : n ≤ 40) : 0 ≤ s.sink * n ∧ s.sink * n ≤ 2000 := by
  have h2 := h.sink
  have h3 : 0 ≤ s.sink * n := Int.mul_nonneg h2.1 h0
  have h4 : s.sink * n ≤ 50 * 40 := Int.mul_le_mul h2.2 h1 h0 (by decide)
  omega

theorem over_small {b : Be} {s : Sh} (hok : Ok b s) {p : Pu} (hp : p.Ok b) {bite : Int} (h0 : 0 ≤ bite) (h1 : bite ≤ 200) : (overR b s p bite).Small := by
  have hw := hok.weight' hp.n0 hp.n1
  have h2 := hok.draft
  have h3 := hok.height _ hp.t1
  have h4 := hok.wind _ hp.t1
  unfold Sp.In at h2 h3 h4
  constructor <;> simp only [overR, tideAt_eq hp] <;> omega

theorem den85 (b : Be) (s : Sh) (hok : Ok b s) (p : Pu) (hp : p.Ok b) (bite : Int) (h0 : 0 ≤ bite) (h1 : bite ≤ 200) : DN 85 [.agg p.enc, .int .i64 bite, .ro (b.enc ++ s.enc)] (.agg (overR b s p bite).enc) := by
  have hw := hok.weight' hp.n0 hp.n1
  have h2 := hok.draft
  have h3 := hok.height _ hp.t1
  have h4 := hok.wind _ hp.t1
  unfold Sp.In at h2 h3 h4
  have hd54 : DN 49 [.agg (b.enc ++ s.enc), .int .i64 p.tide] (.agg (boxOf b s (b.tides[p.tide.toNat]'hp.t1)).enc) := by
    have ht : p.tide = (p.tide.toNat : Int) := by have := hp.t0; omega
    have := den49 b s p.tide.toNat hp.t1
    rw [← ht] at this
    exact this
  have hov : overR b s p bite = ⟨(b.tides[p.tide.toNat]'hp.t1).height.lo + (b.tides[p.tide.toNat]'hp.t1).wind.lo - s.draft.hi + (bite - s.sink * p.ballast), (b.tides[p.tide.toNat]'hp.t1).height.hi + (b.tides[p.tide.toNat]'hp.t1).wind.hi - s.draft.lo + (bite - s.sink * p.ballast)⟩ := by
    unfold overR; rw [tideAt_eq hp]
  revert h3 h4 hd54 hov
  generalize (b.tides[p.tide.toNat]'hp.t1) = t
  intro h3 h4 hd54 hov
  refine mk Tryz.func85 Tryz.call85 rfl rfl ?_
  refine ⟨_, rfl, _, hd54, ?_⟩
  refine ⟨_, wrap64 (n := s.sink * p.ballast) (by omega) (by omega), ?_⟩
  refine ⟨_, wrap64 (by omega) (by omega), ?_⟩
  refine ⟨by decide, ?_⟩
  refine ⟨by decide, ?_⟩
  refine ⟨_, wrap64 (n := t.height.lo + t.wind.lo) (by omega) (by omega), ?_⟩
  refine ⟨by decide, ?_⟩
  refine ⟨_, wrap64 (n := t.height.lo + t.wind.lo - s.draft.hi) (by omega) (by omega), ?_⟩
  refine ⟨_, wrap64 (n := t.height.lo + t.wind.lo - s.draft.hi + (bite - s.sink * p.ballast)) (by omega) (by omega), ?_⟩
  refine ⟨by decide, ?_⟩
  refine ⟨by decide, ?_⟩
  refine ⟨_, wrap64 (n := t.height.hi + t.wind.hi) (by omega) (by omega), ?_⟩
  refine ⟨by decide, ?_⟩
  refine ⟨_, wrap64 (n := t.height.hi + t.wind.hi - s.draft.lo) (by omega) (by omega), ?_⟩
  refine ⟨_, wrap64 (n := t.height.hi + t.wind.hi - s.draft.lo + (bite - s.sink * p.ballast)) (by omega) (by omega), ?_⟩
  rw [hov]
  rfl

theorem den86 (c : Tr) (hc : c.Small) : DN 86 [.agg c.enc] (.int .i64 (1000 * c.height / c.slope)) := by
  have a1 := hc.s0
  have a2 := hc.h0
  have a3 := hc.h1
  refine mk Tryz.func86 Tryz.call86 rfl rfl ?_
  refine ⟨⟨by omega, by omega⟩, ?_⟩
  refine ⟨_, wrap64 (n := 1000 * c.height) (by omega) (by omega), ?_⟩
  refine ⟨⟨by omega, by omega⟩, ?_⟩
  refine ⟨_, rfl, _, den79 _ _ a1 (by omega) (by omega), ?_⟩
  rfl

theorem den87 (c : Tr) (hc : c.Small) : DN 87 [.agg c.enc] (.int .i64 (1000 * c.height / c.slope)) := by
  have a1 := hc.s0
  have a2 := hc.h0
  have a3 := hc.h1
  refine mk Tryz.func87 Tryz.call87 rfl rfl ?_
  refine ⟨⟨by omega, by omega⟩, ?_⟩
  refine ⟨_, wrap64 (n := 1000 * c.height) (by omega) (by omega), ?_⟩
  refine ⟨⟨by omega, by omega⟩, ?_⟩
  refine ⟨_, rfl, _, den79 _ _ a1 (by omega) (by omega), ?_⟩
  rfl

/-- The box of all slopes at one height of the water above her draft. -/
def flatB (b : Be) (h : Int) : Bx := ⟨b.slope, ⟨0, 0⟩, ⟨h, h⟩, ⟨0, 0⟩⟩

theorem reachL_congr {f g : Tr → Int} : ∀ {l : List Tr}, (∀ c ∈ l, f c = g c) → reachL f l = reachL g l := by
  intro l h
  cases l with
  | nil => rfl
  | cons c r =>
    have main : ∀ (r : List Tr) (s : Sp), (∀ c ∈ r, f c = g c) → r.foldl (fun s c => wid s (f c)) s = r.foldl (fun s c => wid s (g c)) s := by
      intro r
      induction r with
      | nil => intro s _; rfl
      | cons d t ih =>
        intro s hd
        simp only [List.foldl_cons]
        rw [hd d (by simp)]
        exact ih _ fun e he => hd e (by simp [he])
    simp only [reachL]
    rw [h c (by simp)]
    exact main r _ fun d hd => h d (by simp [hd])

theorem flat_small {b : Be} {s : Sh} (hok : Ok b s) {h : Int} (h0 : -100000 ≤ h) (h1 : h ≤ 100000) : (flatB b h).Small ∧ (flatB b h).Ord := by
  have h2 := hok.slope
  unfold Sp.In at h2
  refine ⟨?_, ?_⟩ <;> constructor <;> simp only [flatB] <;> omega

theorem flat_reach {b : Be} {s : Sh} (hok : Ok b s) {h : Int} (h0 : -100000 ≤ h) (h1 : h ≤ 100000) :
    reachL (fun c => 1000 * c.height / c.slope) (corners (flatB b h)) = ⟨min (1000 * h / b.slope.lo) (1000 * h / b.slope.hi), max (1000 * h / b.slope.lo) (1000 * h / b.slope.hi)⟩ := by
  have e : reachL (fun c => 1000 * c.height / c.slope) (corners (flatB b h)) = reachL (fun c => atR 0 c 0 0) (corners (flatB b h)) := by
    refine reachL_congr fun c hc => ?_
    obtain ⟨n, _, rfl⟩ := List.mem_map.1 hc
    have e1 : (corner (flatB b h) n).draft = 0 := by show Sp.at ⟨0, 0⟩ _ = 0; cases up n 1 <;> rfl
    have e2 : (corner (flatB b h) n).wind = 0 := by show Sp.at ⟨0, 0⟩ _ = 0; cases up n 3 <;> rfl
    unfold atR
    rw [e1, e2]
    congr 2
    omega
  rw [e, reach_corners _ (flat_small hok h0 h1).2]
  simp [reachR, atR, flatB]

def maxS (s t : Sp) : Sp := ⟨max s.lo t.lo, max s.hi t.hi⟩
/-- By how much the water is higher than her draft, on the tide on which it is highest. -/
def topR (b : Be) (s : Sh) (run : Pu) (pulls : List Pu) : Sp := pulls.foldl (fun o p => maxS o (overR b s p b.bite)) (overR b s run 0)
def liesR (b : Be) (s : Sh) (run : Pu) (pulls : List Pu) : Sp :=
  ⟨min (1000 * (topR b s run pulls).lo / b.slope.lo) (1000 * (topR b s run pulls).lo / b.slope.hi), max (1000 * (topR b s run pulls).hi / b.slope.lo) (1000 * (topR b s run pulls).hi / b.slope.hi)⟩

theorem topR_snoc (b : Be) (s : Sh) (run : Pu) (pulls : List Pu) (p : Pu) : topR b s run (pulls ++ [p]) = maxS (topR b s run pulls) (overR b s p b.bite) := by
  unfold topR; rw [List.foldl_append]; rfl

theorem top_small {b : Be} {s : Sh} (hok : Ok b s) {run : Pu} (hr : run.Ok b) : ∀ {pulls : List Pu}, (∀ p ∈ pulls, p.Ok b) → (topR b s run pulls).Small := by
  intro pulls hp
  have h2 := hok.bite
  have main : ∀ (l : List Pu) (o : Sp), o.Small → (∀ p ∈ l, p.Ok b) → (l.foldl (fun o p => maxS o (overR b s p b.bite)) o).Small := by
    intro l
    induction l with
    | nil => intro o ho _; exact ho
    | cons p r ih =>
      intro o ho hl
      simp only [List.foldl_cons]
      refine ih _ ?_ fun q hq => hl q (by simp [hq])
      have h1 := over_small hok (hl p (by simp)) h2.1 h2.2
      obtain ⟨a0, a1, b0, b1⟩ := ho
      obtain ⟨c0, c1, d0, d1⟩ := h1
      constructor <;> simp only [maxS] <;> omega
  exact main pulls _ (over_small hok hr (Int.le_refl 0) (by decide)) hp

abbrev pullsD (l : List Pu) : D := .list 2 (l.map Pu.enc)

set_option maxHeartbeats 2000000 in
theorem den72 (b : Be) (s : Sh) (hok : Ok b s) (run : Pu) (hr : run.Ok b) (pulls : List Pu) (hp : ∀ p ∈ pulls, p.Ok b) (hl : pulls.length < 1000) : DN 72 [.agg (b.enc ++ s.enc), .agg run.enc, pullsD pulls] (.agg (liesR b s run pulls).enc) := by
  refine mk Tryz.func72 Tryz.call72 rfl rfl ?_
  refine ⟨_, rfl, _, den85 b s hok run hr 0 (Int.le_refl 0) (by decide), ?_⟩
  refine ⟨[2, 3, 4, 6, 7, 8, 18, 19, 20], 4, [], fun σ => ∃ i : Nat, i ≤ pulls.length ∧ σ = ⟨[(2, pullsD pulls), (3, .loc 0 0), (4, .loc 1 0), (6, .loc 2 0), (7, .clo (.func 85) [] [.loc 0 0]), (8, .loc 3 0), (18, pullsD pulls), (19, .int .i64 (pulls.map Pu.enc).length), (20, .int .i64 i)],
    [.flat false (b.enc ++ s.enc), .flat false run.enc, .flat false [.int .i64 0, .int .i64 0], .flat false (topR b s run (pulls.take i)).enc], .non⟩, fun σ => (1000 - slotI 20 σ).toNat, rfl, ⟨rfl, rfl⟩, ⟨0, Nat.zero_le _, rfl⟩, ?_⟩
  rintro σ ⟨i, hi, rfl⟩
  refine ⟨fun h1 => ?_, fun h1 => ?_⟩
  · have h1 := of_decide_eq_true h1
    rw [List.length_map] at h1
    have hi' : i < pulls.length := by omega
    have hrow : (pulls.map Pu.enc)[((i : Int)).toNat]? = some (pulls[i].enc) := by simp [hi']
    have htake : pulls.take (i + 1) = pulls.take i ++ [pulls[i]] := List.take_succ_eq_append_getElem hi'
    refine ⟨by omega, _, hrow, ?_⟩
    refine ⟨_, rfl, _, den85 b s hok pulls[i] (hp _ (List.getElem_mem _)) b.bite hok.bite.1 hok.bite.2, ?_⟩
    refine Or.inr (Or.inl ⟨11, [7, 8, 9], by kernel_rfl, ?_⟩)
    refine ⟨⟨rfl, rfl, rfl, trivial⟩, ?_⟩
    refine ⟨trivial, ?_⟩
    refine ⟨trivial, ?_⟩
    refine ⟨_, wrap64 (by omega) (by omega), ?_⟩
    refine ⟨⟨rfl, rfl⟩, ⟨i + 1, hi', ?_⟩, ?_⟩
    · rw [htake, topR_snoc]; rfl
    · show (1000 - ((i : Int) + 1)).toNat < (1000 - (i : Int)).toNat
      omega
  · have h1 := of_decide_eq_false h1
    rw [List.length_map] at h1
    have hil : i = pulls.length := by omega
    subst hil
    rw [List.take_length]
    obtain ⟨t0, t1, t2, t3⟩ := top_small hok hr hp
    have f1 := flat_small hok t0 t1
    have f2 := flat_small hok t2 t3
    refine Or.inl ⟨by kernel_rfl, ?_⟩
    refine ⟨_, rfl, _, den70 _, ?_⟩
    refine ⟨_, rfl, _, den50 (flatB b (topR b s run pulls).lo), ?_⟩
    refine ⟨_, rfl, _, den48b (corners (flatB b (topR b s run pulls).lo)) _ (iter75 _) (fun c hc => den86 c (f1.1.corner hc)), ?_⟩
    rw [flat_reach hok t0 t1]
    refine Or.inl ⟨by kernel_rfl, ?_⟩
    refine ⟨_, rfl, _, den70 _, ?_⟩
    refine ⟨_, rfl, _, den50 (flatB b (topR b s run pulls).hi), ?_⟩
    refine ⟨_, rfl, _, den48b (corners (flatB b (topR b s run pulls).hi)) _ (iter75 _) (fun c hc => den87 c (f2.1.corner hc)), ?_⟩
    rw [flat_reach hok t2 t3]
    rfl

end Go.Proofs.Tide
