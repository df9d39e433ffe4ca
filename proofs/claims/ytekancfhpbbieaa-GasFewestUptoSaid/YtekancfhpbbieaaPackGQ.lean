/- Readings that say as much; A wider space: the plain law. No condition. -/
import Derived.Test.YtekancfhpbbieaaPackGO
import Derived.Test.YtekancfhpbbieaaPackGD

namespace Go.Proofs.Gas
open Go.V Go.Proofs

theorem left_congr {s : Space} {l l' : List Rd} (h : ∀ r ∈ l, s.readBad r = 0) (h' : ∀ r ∈ l', s.readBad r = 0) {t : Int} (ha : ∀ n, s.agrees l t n = s.agrees l' t n) : left (s.seen l) t = left (s.seen l') t := by
  refine canon_ext (seen_ok s l t).1 (seen_ok s l' t).1 fun n => ?_
  have h1 := left_reads s t n l [] h
  have h2 := left_reads s t n l' [] h'
  rw [left_nil] at h1 h2
  show inB n (left (s.reads l []).1 t) = inB n (left (s.reads l' []).1 t)
  rw [h1, h2, ha]
theorem lv_congr {s : Space} {m m' : Seen} : ∀ t : Nat, (∀ i : Nat, i ≤ t → left m i = left m' i) → s.lv m t = s.lv m' t
  | 0, h => by
    have := h 0 (Nat.le_refl 0)
    rw [Space.lv, Space.lv]
    show both s.start (left m ((0 : Nat) : Int)) = both s.start (left m' ((0 : Nat) : Int))
    rw [this]
  | t + 1, h => by
    have h1 := h (t + 1) (Nat.le_refl _)
    have e : (((t + 1 : Nat)) : Int) = (t : Int) + 1 := by omega
    rw [e] at h1
    rw [Space.lv, Space.lv, lv_congr t fun i hi => h i (by omega), h1]
theorem left_sub {s : Space} {l l' : List Rd} (h : ∀ r ∈ l, s.readBad r = 0) (h' : ∀ r ∈ l', s.readBad r = 0) {t : Int} (ha : ∀ n, s.agrees l t n = true → s.agrees l' t n = true) : (left (s.seen l) t).sub (left (s.seen l') t) := by
  intro n hn
  have h1 := left_reads s t n l [] h
  have h2 := left_reads s t n l' [] h'
  rw [left_nil] at h1 h2
  have hn : inB n (left (s.reads l []).1 t) = true := hn
  show inB n (left (s.reads l' []).1 t) = true
  rw [h1, Bool.and_eq_true] at hn
  rw [h2, Bool.and_eq_true]
  exact ⟨hn.1, ha n hn.2⟩

theorem good_sub {s : Space} {l l' : List Rd} (h : s.good l') (hl : l.length ≤ 12) (hs : ∀ r ∈ l, r ∈ l') : s.good l := ⟨h.v, hl, fun r hr => h.ok r (hs r hr)⟩

end Go.Proofs.Gas

namespace Go.Proofs.Gas
open Go.V Go.Proofs

structure Wd where
  start : Int
  rise : Int
  blow : Int
  err : Int
  minute : Int
structure Wd.ok (w : Wd) : Prop where
  start : 0 ≤ w.start ∧ w.start < 256
  rise : 0 ≤ w.rise ∧ w.rise < 256
  blow : 0 ≤ w.blow ∧ w.blow < 256
  err : 0 ≤ w.err ∧ w.err < 256
  minute : 0 ≤ w.minute ∧ w.minute < 256
def Wd.enc (w : Wd) : List D := [.int .u8 w.start, .int .u8 w.rise, .int .u8 w.blow, .int .u8 w.err, .int .u8 w.minute]

def wideT (e : Int) (x : Tl) : Tl := (x.1, min 50 (x.2 + e))
def Space.wide (s : Space) (w : Wd) : Space :=
  ⟨⟨max 0 (s.start.lo - w.start), min 200 (s.start.hi + w.start)⟩, ⟨max (-20) (s.rise.lo - w.rise), min 20 (s.rise.hi + w.rise)⟩, ⟨max (-20) (s.blow.lo - w.blow), min 20 (s.blow.hi + w.blow)⟩, s.limit, s.blows, s.tools.map (wideT w.err)⟩

theorem freshE_wide (e : Int) (pre : List Tl) (n : ByteArray) : freshE (pre.map (wideT e)) n = freshE pre n := by
  unfold freshE
  rw [List.any_map]
  rfl
theorem toolsGood_wide {e : Int} (he : 0 ≤ e) : ∀ (ts pre : List Tl), toolsGood pre ts → toolsGood (pre.map (wideT e)) (ts.map (wideT e))
  | [], _, _ => trivial
  | x :: r, pre, h => by
    have ih := toolsGood_wide he r (pre ++ [x]) h.2
    rw [List.map_append] at ih
    refine ⟨⟨?_, ?_, ?_⟩, ih⟩
    · rw [freshE_wide]; exact h.1.1
    · have := h.1.2; show 0 ≤ min 50 (x.2 + e); omega
    · show min 50 (x.2 + e) ≤ 50; omega
theorem wide_valid {s : Space} (hv : s.Valid) {w : Wd} (hw : w.ok) : (s.wide w).Valid := by
  obtain ⟨h1, h2, h3, h4, h5, h6, h7, h8⟩ := hv
  obtain ⟨w1, w2, w3, w4, w5⟩ := hw
  refine ⟨?_, h2, ?_, ?_, h5, h6, ?_, toolsGood_wide w4.1 s.tools [] h8⟩
  · simp only [Space.wide]; omega
  · simp only [Space.wide]; omega
  · simp only [Space.wide]; omega
  · simp only [Space.wide, List.length_map]; exact h7
theorem wide_le {s : Space} (hv : s.Valid) {w : Wd} (hw : w.ok) : s.le (s.wide w) := by
  obtain ⟨w1, w2, w3, w4, w5⟩ := hw
  refine ⟨fun n hn => ?_, fun t => ?_⟩
  · have := inB_iff.1 hn
    have hst := hv.start
    refine inB_iff.2 ?_
    simp only [Space.wide]; omega
  · have h1 := hv.rise
    have h2 := hv.blow
    unfold Space.riseAt
    have : (s.wide w).blows = s.blows := rfl
    rw [this]
    split
    · simp only [Space.wide]; omega
    · simp only [Space.wide]; omega
theorem wide_bad {s : Space} {w : Wd} (r : Rd) : (s.wide w).readBad r = s.readBad r := by
  unfold Space.readBad Space.wide
  simp only [List.length_map]
theorem wide_err {s : Space} (hv : s.Valid) {w : Wd} (hw : w.ok) (t : Int) : s.err t ≤ (s.wide w).err t := by
  have h := hv.err t
  unfold Space.err Space.wide at *
  simp only [List.getElem?_map]
  cases hx : s.tools[t.toNat]? with
  | none => exact Int.le_refl 0
  | some x =>
    rw [hx] at h
    simp only at h
    have := hw.err
    show x.2 ≤ min 50 (x.2 + w.err)
    omega
theorem wide_good {s : Space} {l : List Rd} (h : s.good l) {w : Wd} (hw : w.ok) : (s.wide w).good l := ⟨wide_valid h.v hw, h.len, fun r hr => by rw [wide_bad]; exact h.ok r hr⟩
theorem wide_left {s : Space} {l : List Rd} (h : s.good l) {w : Wd} (hw : w.ok) (t : Int) : (left (s.seen l) t).sub (left ((s.wide w).seen l) t) := by
  intro n hn
  have h1 := left_reads s t n l [] h.ok
  have h2 := left_reads (s.wide w) t n l [] (wide_good h hw).ok
  rw [left_nil] at h1 h2
  have hn : inB n (left (s.reads l []).1 t) = true := hn
  show inB n (left ((s.wide w).reads l []).1 t) = true
  rw [h1, Bool.and_eq_true] at hn
  rw [h2, Bool.and_eq_true]
  refine ⟨hn.1, ?_⟩
  have ha := hn.2
  unfold Space.agrees at *
  rw [List.all_eq_true] at *
  intro r hr
  have := ha r hr
  rw [fits_in] at this ⊢
  by_cases hc : t = r.minute
  · rw [if_pos hc] at this ⊢
    have h3 := inB_iff.1 this
    have h4 := wide_err h.v hw r.tool
    refine inB_iff.2 ?_
    simp only at *
    omega
  · rw [if_neg hc]

/-- Levels and until when, in the wider space. -/
theorem wide_more {s : Space} {l : List Rd} (h : s.good l) {w : Wd} (hw : w.ok) {now : Nat} (hne : ¬ s.lv (s.seen l) now = none') :
    ¬ (s.wide w).lv ((s.wide w).seen l) now = none' ∧ ((s.wide w).lv ((s.wide w).seen l) now).lo ≤ (s.lv (s.seen l) now).lo ∧ (s.lv (s.seen l) now).hi ≤ ((s.wide w).lv ((s.wide w).seen l) now).hi ∧
    (s.wide w).untilOn now ((s.wide w).lv ((s.wide w).seen l) now) ≤ s.untilOn now (s.lv (s.seen l) now) := by
  have hsub := lv_sub (wide_le h.v hw) h.v now fun i _ => wide_left h hw i
  have hl := lv_lev h.v (s.seen l) now
  obtain ⟨h1, h2, h3⟩ := sub_bounds hsub hl hne
  refine ⟨h3, h1, h2, ?_⟩
  refine untilOn_mono fun i hi hle => ?_
  have hs := on_sub (wide_le h.v hw) h.v now hsub hl i
  have := (sub_bounds hs (on_lev h.v now hl i) (on_ne h.v now hl hne i)).2.1
  have e : (s.wide w).limit = s.limit := rfl
  rw [e] at hle
  omega

end Go.Proofs.Gas
