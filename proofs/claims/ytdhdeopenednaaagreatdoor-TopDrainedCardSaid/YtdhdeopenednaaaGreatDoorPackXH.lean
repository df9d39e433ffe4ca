/- Where a ship stops in a truth; The reference's Reach and Step; The reference's Step, Stops, Ashore; Ints; What the checks leave: small numbers; The reference's Stops and Ashore; Ints; The reference's Ashore; Ints; Ints, the box of a tide, and closures; The corners of a box; The least and the greatest number that is made of some things; Where a ship stops in the corners of a box; Stops, Ashore, the least ballast. No condition. -/
import Derived.Laws.Closers25
import Derived.Test.YtdhdeopenednaaaGreatDoorPackXG

namespace Go.Proofs.Tide
open Go.V Go.Proofs Go.Proofs.Top

theorem down_eq (n b : Int) (hb : 0 < b) : n / b = if n.tmod b < 0 then n.tdiv b - 1 else n.tdiv b := by
  rw [Int.tdiv_eq_ediv, Int.tmod_eq_emod]
  have h1 := Int.emod_nonneg n (b := b) (by omega)
  have h2 := Int.emod_lt_of_pos n hb
  have hs : b.sign = 1 := Int.sign_eq_one_of_pos hb
  by_cases h : 0 ≤ n ∨ b ∣ n
  · simp only [h, if_true]
    rw [if_neg (by omega)]; omega
  · simp only [h, if_false, hs]
    have : n % b ≠ 0 := fun e => h (.inr (Int.dvd_of_emod_eq_zero e))
    have hnb : (b.natAbs : Int) = b := by omega
    rw [if_pos (by omega)]; omega

theorem tdiv_bound (n b : Int) : -(n.natAbs : Int) ≤ n.tdiv b ∧ n.tdiv b ≤ n.natAbs := by
  have h : (n.tdiv b).natAbs ≤ n.natAbs := by rw [Int.natAbs_tdiv]; exact Nat.div_le_self _ _
  omega

theorem den79 (n b : Int) (hb : 0 < b) (h0 : -4611686018427387904 ≤ n) (h1 : n ≤ 4611686018427387904) : DN 79 [.int .i64 n, .int .i64 b] (.int .i64 (n / b)) := by
  refine mk Tryz.func79 Tryz.call79 rfl rfl ?_
  have ht := tdiv_bound n b
  refine ⟨by omega, _, wrap64 (by omega) (by omega), ?_⟩
  refine ⟨by omega, _, rfl, ?_⟩
  refine ⟨fun h2 => ?_, fun h2 => ?_⟩
  · have h2 := of_decide_eq_true h2
    refine ⟨_, wrap64 (by omega) (by omega), ?_⟩
    show some (D.int .i64 (n.tdiv b - 1)) = some (D.int .i64 _)
    rw [down_eq n b hb, if_pos h2]
  · have h2 := of_decide_eq_false h2
    show some (D.int .i64 (n.tdiv b)) = some (D.int .i64 _)
    rw [down_eq n b hb, if_neg h2]

theorem den44 (n b : Int) (hb : 0 < b) (hb' : b ≤ 1000000) (h0 : -4611686018427387904 ≤ n) (h1 : n ≤ 4611686018427387904) : DN 44 [.int .i64 n, .int .i64 b] (.int .i64 (n / b)) := by
  refine mk Tryz.func44 Tryz.call44 rfl rfl ?_
  have ht := tdiv_bound n b
  have hm : n.tdiv b * b + n.tmod b = n := by rw [Int.mul_comm]; exact Int.mul_tdiv_add_tmod n b
  have hm2 : -b < n.tmod b ∧ n.tmod b < b := by
    rw [Int.tmod_eq_emod]
    have h1 := Int.emod_nonneg n (b := b) (by omega)
    have h2 := Int.emod_lt_of_pos n hb
    split
    · omega
    · have : n % b ≠ 0 := fun e => by rename_i h; exact h (.inr (Int.dvd_of_emod_eq_zero e))
      omega
  refine ⟨by omega, _, wrap64 (by omega) (by omega), ?_⟩
  refine ⟨_, wrap64 (by omega) (by omega), ?_⟩
  refine ⟨fun h2 => ?_, fun h2 => ?_⟩
  · have h2 := of_decide_eq_true h2
    refine ⟨_, wrap64 (by omega) (by omega), ?_⟩
    show some (D.int .i64 (n.tdiv b - 1)) = some (D.int .i64 _)
    rw [down_eq n b hb, if_pos (by omega)]
  · have h2 := of_decide_eq_false h2
    show some (D.int .i64 (n.tdiv b)) = some (D.int .i64 _)
    rw [down_eq n b hb, if_neg (by omega)]

/-- A truth. -/
structure Tr where
  slope : Int
  draft : Int
  height : Int
  wind : Int
def Tr.enc (t : Tr) : List D := [.int .i64 t.slope, .int .i64 t.draft, .int .i64 t.height, .int .i64 t.wind]

def atR (sink : Int) (t : Tr) (ballast bite : Int) : Int := 1000 * (t.height + t.wind + bite - t.draft - sink * ballast) / t.slope

/-- Numbers for which nothing overflows. -/
structure Tr.Small (t : Tr) : Prop where
  s0 : 0 < t.slope
  s1 : t.slope ≤ 1000000
  d0 : -1000000 ≤ t.draft
  d1 : t.draft ≤ 1000000
  h0 : -1000000 ≤ t.height
  h1 : t.height ≤ 1000000
  w0 : -1000000 ≤ t.wind
  w1 : t.wind ≤ 1000000

theorem den78 (b : Be) (s : Sh) (t : Tr) (ht : t.Small) (ballast bite : Int) (hb0 : -1000000 ≤ bite) (hb1 : bite ≤ 1000000) (hm0 : -1000000 ≤ s.sink * ballast) (hm1 : s.sink * ballast ≤ 1000000) :
    DN 78 [.agg t.enc, .ro [.int .i64 bite], .ro (b.enc ++ s.enc), .ro [.int .i64 ballast]] (.int .i64 (atR s.sink t ballast bite)) := by
  obtain ⟨a1, a2, a3, a4, a5, a6, a7, a8⟩ := ht
  refine mk Tryz.func78 Tryz.call78 rfl rfl ?_
  refine ⟨by decide, ?_⟩
  refine ⟨by decide, ?_⟩
  refine ⟨_, wrap64 (by omega) (by omega), ?_⟩
  refine ⟨_, wrap64 (by omega) (by omega), ?_⟩
  refine ⟨by decide, ?_⟩
  refine ⟨_, wrap64 (by omega) (by omega), ?_⟩
  refine ⟨_, wrap64 (by omega) (by omega), ?_⟩
  refine ⟨_, wrap64 (by omega) (by omega), ?_⟩
  refine ⟨_, wrap64 (by omega) (by omega), ?_⟩
  refine ⟨by decide, ?_⟩
  refine ⟨_, rfl, _, den79 _ _ a1 (by omega) (by omega), ?_⟩
  rfl

end Go.Proofs.Tide

namespace Go.Proofs.Tide
open Go.V Go.Proofs Go.Proofs.Top

theorem den8 (s : Sh) (t : Tr) (ht : t.Small) (ballast bite : Int) (hb0 : -1000000 ≤ bite) (hb1 : bite ≤ 1000000) (hm0 : -1000000 ≤ s.sink * ballast) (hm1 : s.sink * ballast ≤ 1000000) :
    DN 8 [.agg s.enc, .agg t.enc, .int .i64 ballast, .int .i64 bite] (.int .i64 (atR s.sink t ballast bite)) := by
  obtain ⟨a1, a2, a3, a4, a5, a6, a7, a8⟩ := ht
  refine mk Tryz.func8 Tryz.call8 rfl rfl ?_
  refine ⟨_, wrap64 (by omega) (by omega), ?_⟩
  refine ⟨_, wrap64 (by omega) (by omega), ?_⟩
  refine ⟨_, wrap64 (by omega) (by omega), ?_⟩
  refine ⟨_, wrap64 (by omega) (by omega), ?_⟩
  refine ⟨_, wrap64 (by omega) (by omega), ?_⟩
  refine ⟨_, wrap64 (by omega) (by omega), ?_⟩
  refine ⟨_, rfl, _, den44 _ _ a1 (by omega) (by omega) (by omega), ?_⟩
  rfl

/-- All truths with numbers of four spans. -/
structure Bx where
  slope : Sp
  draft : Sp
  height : Sp
  wind : Sp
def Bx.enc (x : Bx) : List D := [.int .i64 x.slope.lo, .int .i64 x.slope.hi, .int .i64 x.draft.lo, .int .i64 x.draft.hi, .int .i64 x.height.lo, .int .i64 x.height.hi, .int .i64 x.wind.lo, .int .i64 x.wind.hi]

structure Bx.Small (x : Bx) : Prop where
  s0 : 0 < x.slope.lo
  s1 : x.slope.lo ≤ 1000000
  s2 : 0 < x.slope.hi
  s3 : x.slope.hi ≤ 1000000
  d0 : -1000000 ≤ x.draft.lo
  d1 : x.draft.lo ≤ 1000000
  d2 : -1000000 ≤ x.draft.hi
  d3 : x.draft.hi ≤ 1000000
  h0 : -1000000 ≤ x.height.lo
  h1 : x.height.lo ≤ 1000000
  h2 : -1000000 ≤ x.height.hi
  h3 : x.height.hi ≤ 1000000
  w0 : -1000000 ≤ x.wind.lo
  w1 : x.wind.lo ≤ 1000000
  w2 : -1000000 ≤ x.wind.hi
  w3 : x.wind.hi ≤ 1000000

def reachR (sink : Int) (x : Bx) (ballast bite : Int) : Sp :=
  ⟨min (atR sink ⟨x.slope.lo, x.draft.hi, x.height.lo, x.wind.lo⟩ ballast bite) (atR sink ⟨x.slope.hi, x.draft.hi, x.height.lo, x.wind.lo⟩ ballast bite),
   max (atR sink ⟨x.slope.lo, x.draft.lo, x.height.hi, x.wind.hi⟩ ballast bite) (atR sink ⟨x.slope.hi, x.draft.lo, x.height.hi, x.wind.hi⟩ ballast bite)⟩

def boxOf (b : Be) (s : Sh) (t : Ti) : Bx := ⟨b.slope, s.draft, t.height, t.wind⟩

def withinR (b : Be) (sink : Int) (x : Bx) (ballast : Int) : Bool := decide ((reachR sink x ballast 0).lo ≥ b.marks.lo) && decide ((reachR sink x ballast 0).hi ≤ b.marks.hi)

end Go.Proofs.Tide

namespace Go.Proofs.Tide
open Go.V Go.Proofs Go.Proofs.Top

/-- A beach and a ship are valid: what the checks leave. -/
theorem checkR_err (b : Be) (s : Sh) (h : (checkR b s).2.2 = 0) : (b.tides.length : Int) ≤ 12 ∧ 1 ≤ (b.tides.length : Int) ∧ err1 b = 0 ∧ err3 s = 0 ∧ badFrom b.tides b.tides.length 0 = none := by
  unfold checkR at h
  split at h
  · rename_i h1; exact absurd h h1
  · rename_i h1
    split at h
    · exact absurd h (by decide)
    · rename_i h2
      cases hb : badFrom b.tides b.tides.length 0 with
      | some x =>
        rw [hb] at h
        exfalso
        have main : ∀ (n i : Nat) (x : Nat × Int), badFrom b.tides n i = some x → x.2 ≠ 0 := by
          intro n
          induction n with
          | zero => intro i x h; cases h
          | succ n ih =>
            intro i x h
            simp only [badFrom] at h
            split at h
            · exact ih _ _ h
            · cases h; assumption
        exact main _ _ _ hb h
      | none =>
        rw [hb] at h
        simp only at h
        split at h
        · rename_i h3; exact absurd h h3
        · rename_i h3
          exact ⟨by omega, by omega, by omega, by omega, rfl⟩

end Go.Proofs.Tide

namespace Go.Proofs.Tide
open Go.V Go.Proofs Go.Proofs.Top

def Sp.In (s : Sp) (l h : Int) : Prop := l ≤ s.lo ∧ s.lo ≤ s.hi ∧ s.hi ≤ h

theorem bd_ok {b : Bd} (h1 : b.out = false) (h2 : b.bad = false) : b.l ≤ b.lo ∧ b.lo ≤ b.hi ∧ b.hi ≤ b.h := by
  unfold Bd.out at h1
  unfold Bd.bad at h2
  simp at h1 h2
  omega

theorem strange_ok {bs : List Bd} (h : strangeE bs = 0) : ∀ b ∈ bs, b.l ≤ b.lo ∧ b.lo ≤ b.hi ∧ b.hi ≤ b.h := by
  unfold strangeE at h
  intro b hb
  cases h1 : bs.any Bd.out with
  | true => rw [h1] at h; exact absurd (show (7 : Int) = 0 from h) (by decide)
  | false =>
    rw [h1] at h
    cases h2 : bs.any Bd.bad with
    | true => rw [h2] at h; exact absurd (show (2 : Int) = 0 from h) (by decide)
    | false =>
      exact bd_ok (by simpa using List.any_eq_false.1 h1 b hb) (by simpa using List.any_eq_false.1 h2 b hb)

theorem badFrom_none {l : List Ti} : ∀ (n i : Nat), badFrom l n i = none → ∀ j, i ≤ j → j < i + n → errAt l j = 0
  | 0, i, _, j, h1, h2 => by omega
  | n + 1, i, h, j, h1, h2 => by
    simp only [badFrom] at h
    split at h
    · rename_i h0
      rcases Nat.lt_or_ge i j with h3 | h3
      · exact badFrom_none n (i + 1) h j (by omega) (by omega)
      · rw [show j = i by omega]; exact h0
    · cases h

/-- A valid beach and ship. -/
structure Ok (b : Be) (s : Sh) : Prop where
  n0 : 1 ≤ b.tides.length
  n1 : b.tides.length ≤ 12
  slope : b.slope.In 1 200
  marks : b.marks.In (-2000000) 2000000
  bite : 0 ≤ b.bite ∧ b.bite ≤ 200
  draft : s.draft.In 0 1500
  sink : 0 ≤ s.sink ∧ s.sink ≤ 50
  day : ∀ (i : Nat) (h : i < b.tides.length), 0 ≤ b.tides[i].day ∧ b.tides[i].day ≤ 40000
  height : ∀ (i : Nat) (h : i < b.tides.length), b.tides[i].height.In 0 1500
  wind : ∀ (i : Nat) (h : i < b.tides.length), b.tides[i].wind.In (-200) 200
  order : ∀ (i : Nat) (h : i + 1 < b.tides.length), b.tides[i].day ≤ b.tides[i + 1].day

theorem ok_of {b : Be} {s : Sh} (h : (checkR b s).2.2 = 0) : Ok b s := by
  obtain ⟨h1, h2, h3, h4, h5⟩ := checkR_err b s h
  have a1 := strange_ok h3
  have a3 := strange_ok h4
  have hat := badFrom_none _ _ h5
  have aT : ∀ (i : Nat) (h : i < b.tides.length), errT b.tides[i] = 0 ∧ (0 < i → ¬ b.tides[i].day < dayAt b.tides (i - 1)) := by
    intro i hi
    have := hat i (by omega) (by omega)
    unfold errAt at this
    rw [List.getElem?_eq_getElem hi] at this
    simp only at this
    split at this
    · rename_i h0
      split at this
      · exact absurd this (by decide)
      · rename_i h6; exact ⟨h0, fun hp hd => h6 ⟨hp, hd⟩⟩
    · rename_i h0; exact absurd this h0
  have s1 := a1 (b.slope.bd 1 200) (by simp)
  have s2 := a1 (b.marks.bd (-2000000) 2000000) (by simp)
  have s3 := a1 ⟨b.bite, b.bite, 0, 200⟩ (by simp)
  have s4 := a3 (s.draft.bd 0 1500) (by simp)
  have s5 := a3 ⟨s.sink, s.sink, 0, 50⟩ (by simp)
  refine ⟨by omega, by omega, s1, s2, ⟨s3.1, s3.2.2⟩, s4, ⟨s5.1, s5.2.2⟩, fun i hi => ?_, fun i hi => ?_, fun i hi => ?_, fun i hi => ?_⟩
  · have := strange_ok (aT i hi).1 ⟨b.tides[i].day, b.tides[i].day, 0, 40000⟩ (by simp)
    exact ⟨this.1, this.2.2⟩
  · exact strange_ok (aT i hi).1 (b.tides[i].height.bd 0 1500) (by simp)
  · exact strange_ok (aT i hi).1 (b.tides[i].wind.bd (-200) 200) (by simp)
  · have := (aT (i + 1) hi).2 (by omega)
    have hd : dayAt b.tides (i + 1 - 1) = b.tides[i].day := by
      simp [dayAt, show i < b.tides.length by omega]
    rw [hd] at this
    omega

theorem Ok.small {b : Be} {s : Sh} (h : Ok b s) (i : Nat) (hi : i < b.tides.length) : (boxOf b s b.tides[i]).Small := by
  have h1 := h.slope
  have h2 := h.draft
  have h3 := h.height i hi
  have h4 := h.wind i hi
  unfold Sp.In at h1 h2 h3 h4
  constructor <;> simp only [boxOf] <;> omega

theorem Ok.weight {b : Be} {s : Sh} (h : Ok b s) {n : Int} (h0 : 0 ≤ n) (h1 : n ≤ 40) : -1000000 ≤ s.sink * n ∧ s.sink * n ≤ 1000000 := by
  have h2 := h.sink
  have h3 : 0 ≤ s.sink * n := Int.mul_nonneg h2.1 h0
  have h4 : s.sink * n ≤ 50 * 40 := Int.mul_le_mul h2.2 h1 h0 (by decide)
  omega

end Go.Proofs.Tide

namespace Go.Proofs.Tide
open Go.V Go.Proofs Go.Proofs.Top

theorem errTB_zero {b : Be} {t n : Int} (h : errTB b t n = 0) : 0 ≤ t ∧ t < b.tides.length ∧ 0 ≤ n ∧ n ≤ 40 := by
  unfold errTB at h
  split at h
  · exact absurd h (by decide)
  · split at h
    · exact absurd h (by decide)
    · omega

theorem stepE_zero {b : Be} {s : Sh} {t n : Int} (h : stepE b s t n = 0) : Ok b s ∧ 0 ≤ t ∧ t < b.tides.length ∧ 0 ≤ n ∧ n ≤ 40 := by
  unfold stepE at h
  split at h
  · rename_i h1; exact absurd h h1
  · rename_i h1; exact ⟨ok_of (by omega), errTB_zero h⟩

/-- What Stops returns. -/
def stopsR (b : Be) (s : Sh) (t n : Int) : Sp × Int :=
  if stepE b s t n ≠ 0 then (⟨0, 0⟩, stepE b s t n) else match b.tides[t.toNat]? with
    | some x => (reachR s.sink (boxOf b s x) n 0, 0)
    | none => (⟨0, 0⟩, 0)

end Go.Proofs.Tide

namespace Go.Proofs.Tide
open Go.V Go.Proofs Go.Proofs.Top

def row1 (i : Int) : List D := [.int .i64 i]
/-- A slice of numbers. -/
abbrev intsD (l : List Int) : D := .list 1 (l.map row1)

/-- Of the first i tides those on which she stops within the marks. -/
def found (b : Be) (s : Sh) (n : Int) : Nat → List Int
  | 0 => []
  | i + 1 => match b.tides[i]? with
    | some t => if withinR b s.sink (boxOf b s t) n = true then found b s n i ++ [(i : Int)] else found b s n i
    | none => found b s n i

def ashoreR (b : Be) (s : Sh) (n : Int) : List Int × Int := if stepE b s 0 n ≠ 0 then ([], stepE b s 0 n) else (found b s n b.tides.length, 0)

theorem found_succ {b : Be} {s : Sh} {n : Int} {i : Nat} (hi : i < b.tides.length) : found b s n (i + 1) = if withinR b s.sink (boxOf b s b.tides[i]) n = true then found b s n i ++ [(i : Int)] else found b s n i := by
  simp only [found, List.getElem?_eq_getElem hi]

theorem found_len (b : Be) (s : Sh) (n : Int) : ∀ i, (found b s n i).length ≤ i
  | 0 => Nat.le_refl _
  | i + 1 => by
    have := found_len b s n i
    simp only [found]
    split
    · split
      · simp; omega
      · omega
    · omega

theorem row1_len (l : List Int) : (l.map row1).length = l.length := List.length_map ..

/-- What a function says of a frame that its list has grown. -/
theorem mkW {f : FuncId} {fn : Func} (hf : Tryz.prog.funcs[f]? = some fn) (he : Enters Tryz.prog f) (hb : bodyOK fn = true) {args : List D} {d : D} (hn : Nat.ble args.length fn.ntmps = true) (h : BodyW Tryz.tt (CD Tryz.prog shW) (ItD Tryz.prog ishW) fn args d) : DN f args d :=
  den_ofW Tryz.tok Tryz.mixed hf he hb hn h

end Go.Proofs.Tide

namespace Go.Proofs.Tide
open Go.V Go.Proofs Go.Proofs.Top

theorem row1_get {l : List Int} {i : Nat} (h : i < l.length) : (l.map row1)[((i : Int)).toNat]? = some [.int .i64 l[i]] := by simp [h, row1]

theorem den36 (l m : List Int) (hl : l.length < 1000000) : DN 36 [intsD l, intsD m] (.bool (decide (l = m))) := by
  refine mk Tryz.func36 Tryz.call36 rfl rfl ?_
  refine ⟨[0, 1, 5, 6], 0, [], fun σ => ∃ (i : Nat) (same : Bool), i ≤ l.length ∧ (same = true → l.length = m.length ∧ l.take i = m.take i) ∧ (same = false → l ≠ m) ∧
    σ = ⟨[(0, intsD l), (1, intsD m), (5, .bool same), (6, .int .i64 i)], [], .non⟩, fun σ => ((l.length : Int) - slotI 6 σ).toNat, rfl, ⟨rfl, rfl⟩, ⟨0, _, Nat.zero_le _, ?_, ?_, rfl⟩, ?_⟩
  · intro h
    have h : (((l.map row1).length : Int) == ((m.map row1).length : Int)) = true := h
    rw [row1_len, row1_len] at h
    simp at h
    exact ⟨by omega, by simp⟩
  · intro h e
    have h : (((l.map row1).length : Int) == ((m.map row1).length : Int)) = false := h
    rw [row1_len, row1_len, e] at h
    simp at h
  rintro σ ⟨i, same, hi, hs1, hs2, rfl⟩
  have exit : (same = true → i = l.length) → some (D.bool same) = some (D.bool (decide (l = m))) := by
    intro h
    cases same with
    | false => simp [hs2 rfl]
    | true =>
      obtain ⟨h1, h2⟩ := hs1 rfl
      rw [h rfl, List.take_length, h1, List.take_length] at h2
      simp [h2]
  refine ⟨fun h1 => ?_, fun h1 => ?_⟩
  · have h1 := of_decide_eq_true h1
    rw [row1_len] at h1
    have hi' : i < l.length := by omega
    refine ⟨fun h2 => ?_, fun h2 => ?_⟩
    · obtain ⟨h3, h4⟩ := hs1 h2
      have hi2 : i < m.length := by omega
      refine Or.inl ⟨by kernel_rfl, ?_⟩
      refine ⟨by omega, _, row1_get hi', ?_⟩
      refine ⟨by omega, _, row1_get hi2, ?_⟩
      refine ⟨_, wrap64 (by omega) (by omega), ?_⟩
      refine ⟨⟨rfl, rfl⟩, ⟨i + 1, _, hi', ?_, ?_, rfl⟩, ?_⟩
      · intro h
        have h : l[i] = m[i] := by simpa using h
        exact ⟨h3, by rw [List.take_succ_eq_append_getElem hi', List.take_succ_eq_append_getElem hi2, h4, h]⟩
      · intro h e
        have h : l[i] ≠ m[i] := by simpa using h
        subst e; exact h rfl
      · show ((l.length : Int) - ((i : Int) + 1)).toNat < ((l.length : Int) - (i : Int)).toNat
        omega
    · exact exit (by intro h; rw [h2] at h; cases h)
  · have h1 := of_decide_eq_false h1
    rw [row1_len] at h1
    exact exit fun _ => by omega

theorem den49 (b : Be) (s : Sh) (i : Nat) (hi : i < b.tides.length) : DN 49 [.agg (b.enc ++ s.enc), .int .i64 i] (.agg (boxOf b s b.tides[i]).enc) := by
  refine mk Tryz.func49 Tryz.call49 rfl rfl ?_
  have hrow : (b.tides.map Ti.enc)[((i : Int)).toNat]? = some (b.tides[i].enc) := by simp [hi]
  refine Or.inl ⟨by kernel_rfl, ?_⟩
  refine ⟨by omega, _, hrow, ?_⟩
  refine ⟨by omega, _, hrow, ?_⟩
  rfl

theorem den50 (x : Bx) : DN 50 [.agg x.enc] (.clo (.func 77) [] [.ro x.enc]) := by
  refine mk Tryz.func50 Tryz.call50 rfl rfl ?_
  rfl

theorem den51 (b : Be) (s : Sh) (ballast bite : Int) : DN 51 [.agg (b.enc ++ s.enc), .int .i64 ballast, .int .i64 bite] (.clo (.func 78) [] [.ro [.int .i64 bite], .ro (b.enc ++ s.enc), .ro [.int .i64 ballast]]) := by
  refine mk Tryz.func51 Tryz.call51 rfl rfl ?_
  rfl

end Go.Proofs.Tide

namespace Go.Proofs.Tide
open Go.V Go.Proofs Go.Proofs.Top

theorem mkI {f : FuncId} {fn : Func} (hf : Tryz.prog.funcs[f]? = some fn) (he : Enters Tryz.prog f) (hb : bodyOK fn = true) {args : List D} {xs : List (List D)} (hn : Nat.ble (args.length + 1) fn.ntmps = true) (h : BodyIter Tryz.tt (CD Tryz.prog shW) (ItD Tryz.prog ishW) fn args xs) : IT f args xs :=
  iter_of Tryz.tok Tryz.mixed hf he hb hn h

/-- Of the n-th corner, whether the i-th number is the upper end. -/
def up (n i : Nat) : Bool := bits .and .i64 ((n : Int).fdiv (2 ^ (min (i : Int).toNat 64))) 1 == 1
def Sp.at (s : Sp) (b : Bool) : Int := match b with | true => s.hi | false => s.lo
def corner (x : Bx) (n : Nat) : Tr := ⟨x.slope.at (up n 0), x.draft.at (up n 1), x.height.at (up n 2), x.wind.at (up n 3)⟩
def corners (x : Bx) : List Tr := (List.range 16).map (corner x)
def cornersD (cs : List Tr) : List (List D) := cs.map fun c => [.agg c.enc]

/-- The first i numbers of a corner; the others are 0. -/
def part (x : Bx) (n i : Nat) : List D :=
  match i with
  | 0 => [.int .i64 0, .int .i64 0, .int .i64 0, .int .i64 0]
  | 1 => [.int .i64 (x.slope.at (up n 0)), .int .i64 0, .int .i64 0, .int .i64 0]
  | 2 => [.int .i64 (x.slope.at (up n 0)), .int .i64 (x.draft.at (up n 1)), .int .i64 0, .int .i64 0]
  | 3 => [.int .i64 (x.slope.at (up n 0)), .int .i64 (x.draft.at (up n 1)), .int .i64 (x.height.at (up n 2)), .int .i64 0]
  | _ => (corner x n).enc

theorem corners_drop (x : Bx) {n : Nat} (hn : n < 16) : (cornersD (corners x)).drop n = [.agg (corner x n).enc] :: (cornersD (corners x)).drop (n + 1) := by
  have hl : n < (cornersD (corners x)).length := by simp [cornersD, corners]; exact hn
  rw [List.drop_eq_getElem_cons hl]
  simp [cornersD, corners]

theorem iter75 (x : Bx) : IT 77 [.ro x.enc] (cornersD (corners x)) := by
  refine mkI Tryz.func77 Tryz.call77 rfl rfl ?_
  intro l
  refine ⟨[0, 1, 7], 0, [], fun σ => ∃ n : Nat, n ≤ 16 ∧ σ = ⟨[(0, .yld l), (1, .ro x.enc), (7, .int .i64 n)], [], .rem l ((cornersD (corners x)).drop n)⟩, fun σ => (16 - slotI 7 σ).toNat, rfl, ⟨rfl, rfl⟩, ⟨0, by omega, rfl⟩, ?_⟩
  rintro σ ⟨n, hn, rfl⟩
  refine ⟨fun h1 => ?_, fun h1 => ?_⟩
  · have h1 := of_decide_eq_true h1
    have hn' : n < 16 := by omega
    have hd := corners_drop x hn'
    refine ⟨[0, 1, 3, 4, 7, 10, 11], 1, [], fun σ => ∃ i : Nat, i ≤ 4 ∧ σ = ⟨[(0, .yld l), (1, .ro x.enc), (3, .int .i64 n), (4, .loc 0 0), (7, .int .i64 n), (10, .agg x.enc), (11, .int .i64 i)], [.flat false (part x n i)], .rem l ([.agg (corner x n).enc] :: (cornersD (corners x)).drop (n + 1))⟩, fun σ => (4 - slotI 11 σ).toNat, rfl, ⟨rfl, rfl⟩, ⟨0, by omega, by rw [← hd]; rfl⟩, ?_⟩
    rintro σ ⟨i, hi, rfl⟩
    refine ⟨fun h2 => ?_, fun h2 => ?_⟩
    · have h2 := of_decide_eq_true h2
      have hi' : i = 0 ∨ i = 1 ∨ i = 2 ∨ i = 3 := by omega
      rcases hi' with rfl | rfl | rfl | rfl
      all_goals
        refine ⟨⟨by omega, by omega⟩, _, rfl, rfl, ?_⟩
        refine ⟨⟨by omega, by omega⟩, _, rfl, ?_⟩
        refine ⟨Nat.le_of_ble_eq_true rfl, _, rfl, ?_⟩
        refine ⟨by decide, _, rfl, ?_⟩
        refine ⟨_, rfl, ?_⟩
      all_goals refine ⟨fun h3 => ?_, fun h3 => ?_⟩
      · have h3 : up n 0 = true := h3
        refine ⟨⟨by omega, by omega⟩, _, rfl, ?_⟩
        refine ⟨Nat.le_of_ble_eq_true rfl, _, rfl, ?_⟩
        refine ⟨_, wrap64 (by omega) (by omega), ?_⟩
        refine ⟨⟨rfl, rfl⟩, ⟨1, by omega, ?_⟩, ?_⟩
        · simp only [part, corner, Tr.enc, h3, Sp.at]; rfl
        · show (4 - (((0 : Nat) : Int) + 1)).toNat < (4 - ((0 : Nat) : Int)).toNat
          decide
      · have h3 : up n 0 = false := h3
        refine ⟨_, wrap64 (by omega) (by omega), ?_⟩
        refine ⟨⟨rfl, rfl⟩, ⟨1, by omega, ?_⟩, ?_⟩
        · simp only [part, corner, Tr.enc, h3, Sp.at]; rfl
        · show (4 - (((0 : Nat) : Int) + 1)).toNat < (4 - ((0 : Nat) : Int)).toNat
          decide
      · have h3 : up n 1 = true := h3
        refine ⟨⟨by omega, by omega⟩, _, rfl, ?_⟩
        refine ⟨Nat.le_of_ble_eq_true rfl, _, rfl, ?_⟩
        refine ⟨_, wrap64 (by omega) (by omega), ?_⟩
        refine ⟨⟨rfl, rfl⟩, ⟨2, by omega, ?_⟩, ?_⟩
        · simp only [part, corner, Tr.enc, h3, Sp.at]; rfl
        · show (4 - (((1 : Nat) : Int) + 1)).toNat < (4 - ((1 : Nat) : Int)).toNat
          decide
      · have h3 : up n 1 = false := h3
        refine ⟨_, wrap64 (by omega) (by omega), ?_⟩
        refine ⟨⟨rfl, rfl⟩, ⟨2, by omega, ?_⟩, ?_⟩
        · simp only [part, corner, Tr.enc, h3, Sp.at]; rfl
        · show (4 - (((1 : Nat) : Int) + 1)).toNat < (4 - ((1 : Nat) : Int)).toNat
          decide
      · have h3 : up n 2 = true := h3
        refine ⟨⟨by omega, by omega⟩, _, rfl, ?_⟩
        refine ⟨Nat.le_of_ble_eq_true rfl, _, rfl, ?_⟩
        refine ⟨_, wrap64 (by omega) (by omega), ?_⟩
        refine ⟨⟨rfl, rfl⟩, ⟨3, by omega, ?_⟩, ?_⟩
        · simp only [part, corner, Tr.enc, h3, Sp.at]; rfl
        · show (4 - (((2 : Nat) : Int) + 1)).toNat < (4 - ((2 : Nat) : Int)).toNat
          decide
      · have h3 : up n 2 = false := h3
        refine ⟨_, wrap64 (by omega) (by omega), ?_⟩
        refine ⟨⟨rfl, rfl⟩, ⟨3, by omega, ?_⟩, ?_⟩
        · simp only [part, corner, Tr.enc, h3, Sp.at]; rfl
        · show (4 - (((2 : Nat) : Int) + 1)).toNat < (4 - ((2 : Nat) : Int)).toNat
          decide
      · have h3 : up n 3 = true := h3
        refine ⟨⟨by omega, by omega⟩, _, rfl, ?_⟩
        refine ⟨Nat.le_of_ble_eq_true rfl, _, rfl, ?_⟩
        refine ⟨_, wrap64 (by omega) (by omega), ?_⟩
        refine ⟨⟨rfl, rfl⟩, ⟨4, by omega, ?_⟩, ?_⟩
        · simp only [part, corner, Tr.enc, h3, Sp.at]; rfl
        · show (4 - (((3 : Nat) : Int) + 1)).toNat < (4 - ((3 : Nat) : Int)).toNat
          decide
      · have h3 : up n 3 = false := h3
        refine ⟨_, wrap64 (by omega) (by omega), ?_⟩
        refine ⟨⟨rfl, rfl⟩, ⟨4, by omega, ?_⟩, ?_⟩
        · simp only [part, corner, Tr.enc, h3, Sp.at]; rfl
        · show (4 - (((3 : Nat) : Int) + 1)).toNat < (4 - ((3 : Nat) : Int)).toNat
          decide
    · have h2 := of_decide_eq_false h2
      have hi' : i = 4 := by omega
      subst hi'
      refine ⟨rfl, ⟨_, rfl, rfl⟩, ?_, ?_⟩
      · refine ⟨_, wrap64 (by omega) (by omega), ?_⟩
        refine ⟨⟨rfl, rfl⟩, ⟨n + 1, by omega, rfl⟩, ?_⟩
        show (16 - ((n : Int) + 1)).toNat < (16 - (n : Int)).toNat
        omega
      · rfl
  · have h1 := of_decide_eq_false h1
    have : n = 16 := by omega
    subst this
    rfl

end Go.Proofs.Tide

namespace Go.Proofs.Tide
open Go.V Go.Proofs Go.Proofs.Top

def wid (s : Sp) (n : Int) : Sp := ⟨min s.lo n, max s.hi n⟩
def reachL (f : Tr → Int) : List Tr → Sp
  | [] => ⟨0, 0⟩
  | c :: r => r.foldl (fun s c => wid s (f c)) ⟨f c, f c⟩

theorem reachL_snoc (f : Tr → Int) (l : List Tr) (c : Tr) (h : l ≠ []) : reachL f (l ++ [c]) = wid (reachL f l) (f c) := by
  cases l with
  | nil => exact absurd rfl h
  | cons d r => simp [reachL, List.foldl_append]

def flag (i : Nat) : D := match i with | 0 => .tt | _ => .ff

theorem den48a {u : List D} {a b c : List D} (cs : List Tr) (f : Tr → Int) (hI : IT 77 [.ro u] (cornersD cs)) (hF : ∀ c_ ∈ cs, DN 78 [.agg c_.enc, .ro a, .ro b, .ro c] (.int .i64 (f c_))) :
    DN 48 [.clo (.func 77) [] [.ro u], .clo (.func 78) [] [.ro a, .ro b, .ro c]] (.agg (reachL f cs).enc) := by
  refine mk Tryz.func48 Tryz.call48 rfl rfl ?_
  refine ⟨rfl, _, rfl, cornersD cs, hI, 4, [], fun i bs y => i ≤ cs.length ∧ bs = [.flat false [.clo (.func 78) [] [.ro a, .ro b, .ro c]], .flat false [.int .i64 0, .int .i64 0], .flat false (reachL f (cs.take i)).enc, .flat false [flag i]] ∧ y = .non, rfl, rfl, rfl, ⟨Nat.zero_le _, rfl, rfl⟩, ?_, ?_, ?_⟩
  · rintro i x bs y hx ⟨hi, rfl, rfl⟩
    obtain ⟨c, hc, rfl⟩ : ∃ c, cs[i]? = some c ∧ x = [.agg c.enc] := by
      unfold cornersD at hx
      rw [List.getElem?_map] at hx
      cases h : cs[i]? with
      | none => rw [h] at hx; cases hx
      | some c => rw [h] at hx; exact ⟨c, rfl, (Option.some.inj hx).symm⟩
    have hil : i < cs.length := (List.getElem?_eq_some_iff.1 hc).1
    have hmem : c ∈ cs := List.mem_of_getElem? hc
    have htake : cs.take (i + 1) = cs.take i ++ [c] := by rw [List.take_add_one, hc]; rfl
    refine ⟨_, rfl, _, hF c hmem, ?_⟩
    cases i with
    | zero =>
      refine ⟨_, rfl, _, den70 _, ?_⟩
      refine ⟨rfl, hil, ?_, rfl⟩
      rw [htake]
      show [_, _, Box.flat false [.int .i64 (min (f c) (f c)), .int .i64 (max (f c) (f c))], _] = _
      rw [Int.min_self, Int.max_self]
      rfl
    | succ i =>
      refine ⟨rfl, hil, ?_, rfl⟩
      rw [htake, reachL_snoc f _ c (by intro h; have := congrArg List.length h; rw [List.length_take] at this; have : min (i + 1) cs.length = 0 := this; omega)]
      rfl
  · intro x hx
    obtain ⟨c, _, rfl⟩ := List.mem_map.1 hx
    exact ⟨rfl, rfl⟩
  · rintro bs y ⟨_, rfl, rfl⟩
    rw [show (cornersD cs).length = cs.length from List.length_map .., List.take_length]
    rfl

theorem den48b {kf : Nat} {u : List D} (cs : List Tr) (f : Tr → Int) (hI : IT 77 [.ro u] (cornersD cs)) (hF : ∀ c ∈ cs, DN kf [.agg c.enc] (.int .i64 (f c))) (hk : kf = 86 ∨ kf = 87 := by decide) :
    DN 48 [.clo (.func 77) [] [.ro u], .clo (.func kf) [] []] (.agg (reachL f cs).enc) := by
  rcases hk with rfl | rfl
  · refine mk Tryz.func48 Tryz.call48 rfl rfl ?_
    refine ⟨rfl, _, rfl, cornersD cs, hI, 4, [], fun i bs y => i ≤ cs.length ∧ bs = [.flat false [.clo (.func 86) [] []], .flat false [.int .i64 0, .int .i64 0], .flat false (reachL f (cs.take i)).enc, .flat false [flag i]] ∧ y = .non, rfl, rfl, rfl, ⟨Nat.zero_le _, rfl, rfl⟩, ?_, ?_, ?_⟩
    · rintro i x bs y hx ⟨hi, rfl, rfl⟩
      obtain ⟨c, hc, rfl⟩ : ∃ c, cs[i]? = some c ∧ x = [.agg c.enc] := by
        unfold cornersD at hx
        rw [List.getElem?_map] at hx
        cases h : cs[i]? with
        | none => rw [h] at hx; cases hx
        | some c => rw [h] at hx; exact ⟨c, rfl, (Option.some.inj hx).symm⟩
      have hil : i < cs.length := (List.getElem?_eq_some_iff.1 hc).1
      have hmem : c ∈ cs := List.mem_of_getElem? hc
      have htake : cs.take (i + 1) = cs.take i ++ [c] := by rw [List.take_add_one, hc]; rfl
      refine ⟨_, rfl, _, hF c hmem, ?_⟩
      cases i with
      | zero =>
        refine ⟨_, rfl, _, den70 _, ?_⟩
        refine ⟨rfl, hil, ?_, rfl⟩
        rw [htake]
        show [_, _, Box.flat false [.int .i64 (min (f c) (f c)), .int .i64 (max (f c) (f c))], _] = _
        rw [Int.min_self, Int.max_self]
        rfl
      | succ i =>
        refine ⟨rfl, hil, ?_, rfl⟩
        rw [htake, reachL_snoc f _ c (by intro h; have := congrArg List.length h; rw [List.length_take] at this; have : min (i + 1) cs.length = 0 := this; omega)]
        rfl
    · intro x hx
      obtain ⟨c, _, rfl⟩ := List.mem_map.1 hx
      exact ⟨rfl, rfl⟩
    · rintro bs y ⟨_, rfl, rfl⟩
      rw [show (cornersD cs).length = cs.length from List.length_map .., List.take_length]
      rfl
  · refine mk Tryz.func48 Tryz.call48 rfl rfl ?_
    refine ⟨rfl, _, rfl, cornersD cs, hI, 4, [], fun i bs y => i ≤ cs.length ∧ bs = [.flat false [.clo (.func 87) [] []], .flat false [.int .i64 0, .int .i64 0], .flat false (reachL f (cs.take i)).enc, .flat false [flag i]] ∧ y = .non, rfl, rfl, rfl, ⟨Nat.zero_le _, rfl, rfl⟩, ?_, ?_, ?_⟩
    · rintro i x bs y hx ⟨hi, rfl, rfl⟩
      obtain ⟨c, hc, rfl⟩ : ∃ c, cs[i]? = some c ∧ x = [.agg c.enc] := by
        unfold cornersD at hx
        rw [List.getElem?_map] at hx
        cases h : cs[i]? with
        | none => rw [h] at hx; cases hx
        | some c => rw [h] at hx; exact ⟨c, rfl, (Option.some.inj hx).symm⟩
      have hil : i < cs.length := (List.getElem?_eq_some_iff.1 hc).1
      have hmem : c ∈ cs := List.mem_of_getElem? hc
      have htake : cs.take (i + 1) = cs.take i ++ [c] := by rw [List.take_add_one, hc]; rfl
      refine ⟨_, rfl, _, hF c hmem, ?_⟩
      cases i with
      | zero =>
        refine ⟨_, rfl, _, den70 _, ?_⟩
        refine ⟨rfl, hil, ?_, rfl⟩
        rw [htake]
        show [_, _, Box.flat false [.int .i64 (min (f c) (f c)), .int .i64 (max (f c) (f c))], _] = _
        rw [Int.min_self, Int.max_self]
        rfl
      | succ i =>
        refine ⟨rfl, hil, ?_, rfl⟩
        rw [htake, reachL_snoc f _ c (by intro h; have := congrArg List.length h; rw [List.length_take] at this; have : min (i + 1) cs.length = 0 := this; omega)]
        rfl
    · intro x hx
      obtain ⟨c, _, rfl⟩ := List.mem_map.1 hx
      exact ⟨rfl, rfl⟩
    · rintro bs y ⟨_, rfl, rfl⟩
      rw [show (cornersD cs).length = cs.length from List.length_map .., List.take_length]
      rfl

end Go.Proofs.Tide

namespace Go.Proofs.Tide
open Go.V Go.Proofs Go.Proofs.Top

theorem wid_fold (f : Tr → Int) : ∀ (l : List Tr) (s : Sp), (l.foldl (fun s c => wid s (f c)) s).lo ≤ s.lo ∧ s.hi ≤ (l.foldl (fun s c => wid s (f c)) s).hi ∧ (∀ c ∈ l, (l.foldl (fun s c => wid s (f c)) s).lo ≤ f c ∧ f c ≤ (l.foldl (fun s c => wid s (f c)) s).hi) ∧
    ((l.foldl (fun s c => wid s (f c)) s).lo = s.lo ∨ ∃ c ∈ l, (l.foldl (fun s c => wid s (f c)) s).lo = f c) ∧ ((l.foldl (fun s c => wid s (f c)) s).hi = s.hi ∨ ∃ c ∈ l, (l.foldl (fun s c => wid s (f c)) s).hi = f c)
  | [], s => ⟨Int.le_refl _, Int.le_refl _, by simp, .inl rfl, .inl rfl⟩
  | d :: r, s => by
    obtain ⟨h1, h2, h3, h4, h5⟩ := wid_fold f r (wid s (f d))
    simp only [List.foldl_cons]
    have e1 : (wid s (f d)).lo = min s.lo (f d) := rfl
    have e2 : (wid s (f d)).hi = max s.hi (f d) := rfl
    refine ⟨by omega, by omega, ?_, ?_, ?_⟩
    · intro c hc
      rcases List.mem_cons.1 hc with rfl | hc
      · exact ⟨by omega, by omega⟩
      · exact h3 c hc
    · rcases h4 with h4 | ⟨c, hc, h4⟩
      · by_cases h : s.lo ≤ f d
        · exact .inl (by omega)
        · exact .inr ⟨d, by simp, by omega⟩
      · exact .inr ⟨c, by simp [hc], h4⟩
    · rcases h5 with h5 | ⟨c, hc, h5⟩
      · by_cases h : f d ≤ s.hi
        · exact .inl (by omega)
        · exact .inr ⟨d, by simp, by omega⟩
      · exact .inr ⟨c, by simp [hc], h5⟩

theorem reachL_spec (f : Tr → Int) {l : List Tr} (hl : l ≠ []) : (∀ c ∈ l, (reachL f l).lo ≤ f c ∧ f c ≤ (reachL f l).hi) ∧ (∃ c ∈ l, (reachL f l).lo = f c) ∧ (∃ c ∈ l, (reachL f l).hi = f c) := by
  cases l with
  | nil => exact absurd rfl hl
  | cons d r =>
    obtain ⟨h1, h2, h3, h4, h5⟩ := wid_fold f r ⟨f d, f d⟩
    have h1 : (reachL f (d :: r)).lo ≤ f d := h1
    have h2 : f d ≤ (reachL f (d :: r)).hi := h2
    refine ⟨?_, ?_, ?_⟩
    · intro c hc
      rcases List.mem_cons.1 hc with rfl | hc
      · exact ⟨h1, h2⟩
      · exact h3 c hc
    · rcases h4 with h4 | ⟨c, hc, h4⟩
      · exact ⟨d, by simp, h4⟩
      · exact ⟨c, by simp [hc], h4⟩
    · rcases h5 with h5 | ⟨c, hc, h5⟩
      · exact ⟨d, by simp, h5⟩
      · exact ⟨c, by simp [hc], h5⟩

theorem corner_mem (x : Bx) {n : Nat} (hn : n < 16) : corner x n ∈ corners x := List.mem_map.2 ⟨n, List.mem_range.2 hn, rfl⟩
theorem corners_ne (x : Bx) : corners x ≠ [] := by intro h; have := congrArg List.length h; simp [corners] at this

structure Bx.Ord (x : Bx) : Prop where
  s0 : 0 < x.slope.lo
  s1 : 0 < x.slope.hi
  d : x.draft.lo ≤ x.draft.hi
  h : x.height.lo ≤ x.height.hi
  w : x.wind.lo ≤ x.wind.hi

theorem atR_mono {sink : Int} {t u : Tr} {n m b : Int} (hs : 0 < t.slope) (he : t.slope = u.slope) (h : t.height + t.wind - t.draft - sink * n ≤ u.height + u.wind - u.draft - sink * m) : atR sink t n b ≤ atR sink u m b := by
  unfold atR
  rw [← he]
  exact Int.ediv_le_ediv hs (by omega)

theorem corner_in (x : Bx) (hx : x.Ord) (n : Nat) : ((corner x n).slope = x.slope.lo ∨ (corner x n).slope = x.slope.hi) ∧ x.draft.lo ≤ (corner x n).draft ∧ (corner x n).draft ≤ x.draft.hi ∧ x.height.lo ≤ (corner x n).height ∧ (corner x n).height ≤ x.height.hi ∧ x.wind.lo ≤ (corner x n).wind ∧ (corner x n).wind ≤ x.wind.hi := by
  obtain ⟨_, _, h1, h2, h3⟩ := hx
  have main : ∀ (s : Sp) (b : Bool), s.lo ≤ s.hi → s.lo ≤ s.at b ∧ s.at b ≤ s.hi := by
    intro s b h
    cases b
    · exact ⟨Int.le_refl _, h⟩
    · exact ⟨h, Int.le_refl _⟩
  refine ⟨?_, (main _ _ h1).1, (main _ _ h1).2, (main _ _ h2).1, (main _ _ h2).2, (main _ _ h3).1, (main _ _ h3).2⟩
  show x.slope.at (up n 0) = _ ∨ x.slope.at (up n 0) = _
  cases up n 0
  · exact .inl rfl
  · exact .inr rfl

theorem reach_corners (x : Bx) (hx : x.Ord) (sink ballast bite : Int) : reachL (fun c => atR sink c ballast bite) (corners x) = reachR sink x ballast bite := by
  obtain ⟨h1, ⟨c, hc, h2⟩, ⟨d, hd, h3⟩⟩ := reachL_spec (fun c => atR sink c ballast bite) (corners_ne x)
  have a1 := h1 _ (corner_mem x (n := 2) (by decide))
  have a2 := h1 _ (corner_mem x (n := 3) (by decide))
  have a3 := h1 _ (corner_mem x (n := 12) (by decide))
  have a4 := h1 _ (corner_mem x (n := 13) (by decide))
  rw [show corner x 2 = ⟨x.slope.lo, x.draft.hi, x.height.lo, x.wind.lo⟩ from rfl] at a1
  rw [show corner x 3 = ⟨x.slope.hi, x.draft.hi, x.height.lo, x.wind.lo⟩ from rfl] at a2
  rw [show corner x 12 = ⟨x.slope.lo, x.draft.lo, x.height.hi, x.wind.hi⟩ from rfl] at a3
  rw [show corner x 13 = ⟨x.slope.hi, x.draft.lo, x.height.hi, x.wind.hi⟩ from rfl] at a4
  obtain ⟨n, _, rfl⟩ := List.mem_map.1 hc
  obtain ⟨m, _, rfl⟩ := List.mem_map.1 hd
  obtain ⟨c1, c2, c3, c4, c5, c6, c7⟩ := corner_in x hx n
  obtain ⟨d1, d2, d3, d4, d5, d6, d7⟩ := corner_in x hx m
  have b1 : min (atR sink ⟨x.slope.lo, x.draft.hi, x.height.lo, x.wind.lo⟩ ballast bite) (atR sink ⟨x.slope.hi, x.draft.hi, x.height.lo, x.wind.lo⟩ ballast bite) ≤ atR sink (corner x n) ballast bite := by
    rcases c1 with e | e
    · have := atR_mono (sink := sink) (n := ballast) (m := ballast) (b := bite) (t := ⟨x.slope.lo, x.draft.hi, x.height.lo, x.wind.lo⟩) (u := corner x n) hx.s0 e.symm (by simp only; omega)
      omega
    · have := atR_mono (sink := sink) (n := ballast) (m := ballast) (b := bite) (t := ⟨x.slope.hi, x.draft.hi, x.height.lo, x.wind.lo⟩) (u := corner x n) hx.s1 e.symm (by simp only; omega)
      omega
  have b2 : atR sink (corner x m) ballast bite ≤ max (atR sink ⟨x.slope.lo, x.draft.lo, x.height.hi, x.wind.hi⟩ ballast bite) (atR sink ⟨x.slope.hi, x.draft.lo, x.height.hi, x.wind.hi⟩ ballast bite) := by
    rcases d1 with e | e
    · have := atR_mono (sink := sink) (n := ballast) (m := ballast) (b := bite) (u := ⟨x.slope.lo, x.draft.lo, x.height.hi, x.wind.hi⟩) (t := corner x m) (by rw [e]; exact hx.s0) e (by simp only; omega)
      omega
    · have := atR_mono (sink := sink) (n := ballast) (m := ballast) (b := bite) (u := ⟨x.slope.hi, x.draft.lo, x.height.hi, x.wind.hi⟩) (t := corner x m) (by rw [e]; exact hx.s1) e (by simp only; omega)
      omega
  have e : ∀ s t : Sp, s.lo = t.lo → s.hi = t.hi → s = t := by
    intro s t h h'
    cases s; cases t
    simp only at h h'
    rw [h, h']
  refine e _ _ ?_ ?_
  · show (reachL (fun c => atR sink c ballast bite) (corners x)).lo = min _ _
    omega
  · show (reachL (fun c => atR sink c ballast bite) (corners x)).hi = max _ _
    omega

theorem Ok.ord {b : Be} {s : Sh} (h : Ok b s) (i : Nat) (hi : i < b.tides.length) : (boxOf b s b.tides[i]).Ord := by
  have h1 := h.slope
  have h2 := h.draft
  have h3 := h.height i hi
  have h4 := h.wind i hi
  unfold Sp.In at h1 h2 h3 h4
  constructor <;> simp only [boxOf] <;> omega

theorem Bx.Small.corner {x : Bx} (h : x.Small) {c : Tr} (hc : c ∈ corners x) : c.Small := by
  obtain ⟨n, _, rfl⟩ := List.mem_map.1 hc
  obtain ⟨a1, a2, a3, a4, a5, a6, a7, a8, b1, b2, b3, b4, b5, b6, b7, b8⟩ := h
  constructor <;> simp only [Tide.corner]
  · cases up n 0 <;> assumption
  · cases up n 0 <;> assumption
  · cases up n 1 <;> assumption
  · cases up n 1 <;> assumption
  · cases up n 2 <;> assumption
  · cases up n 2 <;> assumption
  · cases up n 3 <;> assumption
  · cases up n 3 <;> assumption

/-- Where she stops in the truths of a box. -/
theorem den48r (b : Be) (s : Sh) (x : Bx) (hx : x.Small) (ho : x.Ord) (ballast bite : Int) (hb0 : -1000000 ≤ bite) (hb1 : bite ≤ 1000000) (hm0 : -1000000 ≤ s.sink * ballast) (hm1 : s.sink * ballast ≤ 1000000) :
    DN 48 [.clo (.func 77) [] [.ro x.enc], .clo (.func 78) [] [.ro [.int .i64 bite], .ro (b.enc ++ s.enc), .ro [.int .i64 ballast]]] (.agg (reachR s.sink x ballast bite).enc) := by
  rw [← reach_corners x ho]
  exact den48a (corners x) _ (iter75 x) fun c hc => den78 b s c (hx.corner hc) ballast bite hb0 hb1 hm0 hm1

theorem den67 (b : Be) (s : Sh) (x : Bx) (hx : x.Small) (ho : x.Ord) (ballast : Int) (hm0 : -1000000 ≤ s.sink * ballast) (hm1 : s.sink * ballast ≤ 1000000) :
    DN 67 [.agg (b.enc ++ s.enc), .agg x.enc, .int .i64 ballast] (.bool (withinR b s.sink x ballast)) := by
  refine mk Tryz.func67 Tryz.call67 rfl rfl ?_
  refine Or.inl ⟨by kernel_rfl, ?_⟩
  refine ⟨_, rfl, _, den50 x, ?_⟩
  refine ⟨_, rfl, _, den51 b s ballast 0, ?_⟩
  refine ⟨_, rfl, _, den48r b s x hx ho ballast 0 (by decide) (by decide) hm0 hm1, ?_⟩
  refine ⟨fun h1 => ?_, fun h1 => ?_⟩
  · show some (D.bool _) = some (D.bool _)
    unfold withinR; rw [h1]; rfl
  · show some (D.bool _) = some (D.bool _)
    unfold withinR; rw [h1]; rfl

end Go.Proofs.Tide

namespace Go.Proofs.Tide
open Go.V Go.Proofs Go.Proofs.Top

theorem den10 (b : Be) (s : Sh) (t n : Int) : DN 10 [.agg b.enc, .agg s.enc, .int .i64 t, .int .i64 n] (.tup [.agg (stopsR b s t n).1.enc, .int .i64 (stopsR b s t n).2]) := by
  refine mk Tryz.func10 Tryz.call10 rfl rfl ?_
  refine ⟨_, rfl, _, den47 b s t n, ?_⟩
  refine ⟨fun h1 => ?_, fun h1 => ?_⟩
  · have h1 : (stepE b s t n != 0) = true := h1
    have h1 : stepE b s t n ≠ 0 := by simpa using h1
    show some (D.tup [.agg [.int .i64 0, .int .i64 0], .int .i64 (stepE b s t n)]) = _
    unfold stopsR; rw [if_pos h1]; rfl
  · have h1 : (stepE b s t n != 0) = false := h1
    have h1 : stepE b s t n = 0 := by simpa using h1
    obtain ⟨hok, ht0, ht1, hn0, hn1⟩ := stepE_zero h1
    obtain ⟨i, rfl⟩ : ∃ i : Nat, t = i := ⟨t.toNat, by omega⟩
    have hi : i < b.tides.length := by omega
    have hw := hok.weight hn0 hn1
    refine Or.inl ⟨by kernel_rfl, ?_⟩
    refine ⟨_, rfl, _, den49 b s i hi, ?_⟩
    refine ⟨_, rfl, _, den50 _, ?_⟩
    refine ⟨_, rfl, _, den51 b s n 0, ?_⟩
    refine ⟨_, rfl, _, den48r b s _ (hok.small i hi) (hok.ord i hi) n 0 (by decide) (by decide) hw.1 hw.2, ?_⟩
    show some (D.tup [.agg (reachR s.sink (boxOf b s b.tides[i]) n 0).enc, .int .i64 0]) = _
    unfold stopsR; rw [if_neg (by omega)]
    rw [show ((i : Int)).toNat = i from rfl, List.getElem?_eq_getElem hi]

theorem den29 (b : Be) (s : Sh) (n : Int) : DN 29 [.agg b.enc, .agg s.enc, .int .i64 n] (.tup [intsD (ashoreR b s n).1, .int .i64 (ashoreR b s n).2]) := by
  refine mkW Tryz.func29 Tryz.call29 rfl rfl ?_
  refine ⟨_, rfl, _, den47 b s 0 n, ?_⟩
  refine ⟨fun h1 => ?_, fun h1 => ?_⟩
  · have h1 : (stepE b s 0 n != 0) = true := h1
    have h1 : stepE b s 0 n ≠ 0 := by simpa using h1
    refine ⟨.tup [.list 0 [], .int .i64 (stepE b s 0 n)], rfl, ?_⟩
    unfold ashoreR; rw [if_pos h1]
    exact .tcons (.nil _ _) (.refl _)
  have h1 : (stepE b s 0 n != 0) = false := h1
  have h1 : stepE b s 0 n = 0 := by simpa using h1
  obtain ⟨hok, _, _, hn0, hn1⟩ := stepE_zero h1
  have hw := hok.weight hn0 hn1
  have hn12 := hok.n1
  refine ⟨[2, 6, 8, 23, 24], 3, [(.slot 6, 1)], fun σ => ∃ (i g : Nat), i ≤ b.tides.length ∧
    σ = ⟨[(2, .int .i64 n), (6, .sl 3 g 0 ((found b s n i).map row1).length), (8, .loc 2 0), (23, .int .i64 (b.tides.map Ti.enc).length), (24, .int .i64 i)], [.flat false b.enc, .flat false s.enc, .flat false (b.enc ++ s.enc), .rows false g 1 ((found b s n i).map row1)], .non⟩, fun σ => (1000 - slotI 24 σ).toNat, rfl, ⟨rfl, rfl⟩, ⟨0, 0, Nat.zero_le _, rfl⟩, ?_⟩
  rintro σ ⟨i, g, hi, rfl⟩
  have hlen := found_len b s n i
  refine ⟨fun h2 => ?_, fun h2 => ?_⟩
  · have h2 := of_decide_eq_true h2
    rw [List.length_map] at h2
    have hi' : i < b.tides.length := by omega
    have hs := found_succ (b := b) (s := s) (n := n) hi'
    refine Or.inl ⟨by kernel_rfl, ?_⟩
    refine ⟨_, rfl, _, den49 b s i hi', ?_⟩
    refine ⟨_, rfl, _, den67 b s _ (hok.small i hi') (hok.ord i hi') n hw.1 hw.2, ?_⟩
    refine ⟨fun h3 => ?_, fun h3 => ?_⟩
    · rw [if_pos h3] at hs
      have hall : (found b s n i).map row1 ++ [[D.int .i64 i]] = (found b s n (i + 1)).map row1 := by rw [hs]; simp [row1]
      refine ⟨trivial, iff' (by rw [beq_self]; rfl) ⟨rfl, ?_, _, hall, ?_⟩⟩
      · rw [row1_len]; show (_ + 1) * 8 ≤ mostBytes; unfold mostBytes; omega
      refine ⟨_, wrap64 (by omega) (by omega), ?_⟩
      refine ⟨⟨rfl, rfl⟩, ⟨i + 1, g + 1, hi', rfl⟩, ?_⟩
      show (1000 - ((i : Int) + 1)).toNat < (1000 - (i : Int)).toNat
      omega
    · rw [if_neg (by rw [h3]; decide)] at hs
      refine ⟨_, wrap64 (by omega) (by omega), ?_⟩
      refine ⟨⟨rfl, rfl⟩, ⟨i + 1, g, hi', by rw [hs]; rfl⟩, ?_⟩
      show (1000 - ((i : Int) + 1)).toNat < (1000 - (i : Int)).toNat
      omega
  · have h2 := of_decide_eq_false h2
    rw [List.length_map] at h2
    have hil : i = b.tides.length := by omega
    subst hil
    refine ⟨_, reify_tup (mapO_cons (reify_sl rfl rfl) (mapO_cons rfl rfl)), ?_⟩
    unfold ashoreR; rw [if_neg (by omega)]
    exact .refl _

/-- The first number, of the k ones from n on, for which p holds; -1: there is none. -/
def leastF (p : Nat → Bool) : Nat → Nat → Int
  | 0, _ => -1
  | k + 1, n => if p n = true then n else leastF p k (n + 1)

theorem leastF_step (p : Nat → Bool) {n : Nat} (h : n ≤ 40) : leastF p (41 - n) n = if p n = true then (n : Int) else leastF p (41 - (n + 1)) (n + 1) := by
  rw [show 41 - n = (41 - (n + 1)) + 1 by omega]; rfl

def vEnc (b : Be) (s : Sh) (i : Int) : List D := b.enc ++ s.enc ++ [.int .i64 i]

theorem den69 (b : Be) (s : Sh) (hok : Ok b s) (i : Nat) (hi : i < b.tides.length) (n : Nat) (hn : n ≤ 40) : DN 69 [.agg (vEnc b s i), .int .i64 n] (.bool (withinR b s.sink (boxOf b s b.tides[i]) n)) := by
  have hw := hok.weight (n := n) (by omega) (by omega)
  refine mk Tryz.func69 Tryz.call69 rfl rfl ?_
  refine Or.inl ⟨by kernel_rfl, ?_⟩
  refine ⟨_, rfl, _, den49 b s i hi, ?_⟩
  refine ⟨_, rfl, _, den67 b s _ (hok.small i hi) (hok.ord i hi) n hw.1 hw.2, ?_⟩
  rfl

/-- The least ballast on a tide. -/
def leastR (b : Be) (s : Sh) (t : Ti) : Int := leastF (fun n => withinR b s.sink (boxOf b s t) n) 41 0

theorem den68 (b : Be) (s : Sh) (hok : Ok b s) (i : Nat) (hi : i < b.tides.length) : DN 68 [.clo (.func 69) [.agg (vEnc b s i)] []] (.int .i64 (leastR b s b.tides[i])) := by
  refine mk Tryz.func68 Tryz.call68 rfl rfl ?_
  unfold leastR
  refine ⟨[0, 4], 0, [], fun σ => ∃ n : Nat, n ≤ 41 ∧ leastF (fun n => withinR b s.sink (boxOf b s b.tides[i]) n) 41 0 = leastF (fun n => withinR b s.sink (boxOf b s b.tides[i]) n) (41 - n) n ∧ σ = ⟨[(0, .clo (.func 69) [.agg (vEnc b s i)] []), (4, .int .i64 n)], [], .non⟩, fun σ => (41 - slotI 4 σ).toNat, rfl, ⟨rfl, rfl⟩, ⟨0, by omega, rfl, rfl⟩, ?_⟩
  rintro σ ⟨n, hn, hf, rfl⟩
  refine ⟨fun h1 => ?_, fun h1 => ?_⟩
  · have h1 := of_decide_eq_true h1
    rw [leastF_step _ (by omega)] at hf
    refine ⟨_, rfl, _, den69 b s hok i hi n (by omega), ?_⟩
    refine ⟨fun h2 => ?_, fun h2 => ?_⟩
    · show some (D.int .i64 (n : Int)) = some (D.int .i64 _)
      rw [hf, if_pos h2]
    · rw [if_neg (by rw [h2]; decide)] at hf
      refine ⟨_, wrap64 (by omega) (by omega), ?_⟩
      refine ⟨⟨rfl, rfl⟩, ⟨n + 1, by omega, hf, rfl⟩, ?_⟩
      show (41 - ((n : Int) + 1)).toNat < (41 - (n : Int)).toNat
      omega
  · have h1 := of_decide_eq_false h1
    have : n = 41 := by omega
    subst this
    show some (D.int .i64 (-1)) = some (D.int .i64 _)
    rw [hf]; rfl

/-- What Least returns. -/
def leastR2 (b : Be) (s : Sh) (t : Int) : Int × Int :=
  if stepE b s t 0 ≠ 0 then (0, stepE b s t 0) else match b.tides[t.toNat]? with
    | some x => if leastR b s x < 0 then (0, 9) else (leastR b s x, 0)
    | none => (0, 0)
def pairD (x : Int × Int) : D := .tup [.int .i64 x.1, .int .i64 x.2]

theorem den30 (b : Be) (s : Sh) (t : Int) : DN 30 [.agg b.enc, .agg s.enc, .int .i64 t] (pairD (leastR2 b s t)) := by
  refine mk Tryz.func30 Tryz.call30 rfl rfl ?_
  refine ⟨_, rfl, _, den47 b s t 0, ?_⟩
  refine ⟨fun h1 => ?_, fun h1 => ?_⟩
  · have h1 : (stepE b s t 0 != 0) = true := h1
    have h1 : stepE b s t 0 ≠ 0 := by simpa using h1
    show some (pairD (0, stepE b s t 0)) = _
    unfold leastR2; rw [if_pos h1]
  · have h1 : (stepE b s t 0 != 0) = false := h1
    have h1 : stepE b s t 0 = 0 := by simpa using h1
    obtain ⟨hok, ht0, ht1, _, _⟩ := stepE_zero h1
    obtain ⟨i, rfl⟩ : ∃ i : Nat, t = i := ⟨t.toNat, by omega⟩
    have hi : i < b.tides.length := by omega
    have hget : b.tides[((i : Int)).toNat]? = some b.tides[i] := by simp [hi]
    refine ⟨_, rfl, _, den68 b s hok i hi, ?_⟩
    refine ⟨fun h2 => ?_, fun h2 => ?_⟩
    · have h2 := of_decide_eq_true h2
      show some (pairD (0, 9)) = _
      unfold leastR2; rw [if_neg (by omega), hget]; simp only; rw [if_pos h2]
    · have h2 := of_decide_eq_false h2
      show some (pairD (leastR b s b.tides[i], 0)) = _
      unfold leastR2; rw [if_neg (by omega), hget]; simp only; rw [if_neg h2]

end Go.Proofs.Tide
