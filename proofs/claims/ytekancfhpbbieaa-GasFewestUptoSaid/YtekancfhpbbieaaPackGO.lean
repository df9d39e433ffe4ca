/- More, and less: spans in spans, and until when. No condition. -/
import Derived.Test.YtekancfhpbbieaaPackGL
import Derived.Test.YtekancfhpbbieaaPackGH

namespace Go.Proofs.Gas
open Go.V Go.Proofs

/-- Until when, from a minute on with some levels. -/
def Space.onL (s : Space) (now : Nat) (x : Sp) : List (Int × Sp) := (List.range (61 - now)).map fun i : Nat => ((now : Int) + i, s.on now x i)
def Space.untilOn (s : Space) (now : Nat) (x : Sp) : Int := untilL s.limit (s.onL now x) (-1)

theorem onL_get (s : Space) (now : Nat) (x : Sp) (i : Nat) : (s.onL now x)[i]? = if i < 61 - now then some ((now : Int) + i, s.on now x i) else none := by
  unfold Space.onL
  rw [List.getElem?_map]
  by_cases h : i < 61 - now
  · rw [List.getElem?_range h, if_pos h]; rfl
  · rw [List.getElem?_eq_none (by simp; omega), if_neg h]; rfl

theorem follow_on (s : Space) (m : Seen) (now : Nat) (hn : now ≤ 60) {x : Sp} (h : both x (left m now) = x) : s.follow m now (61 - (now : Int)).toNat now x = s.onL now x := by
  apply List.ext_getElem?
  intro i
  rw [onL_get]
  by_cases hi : i < 61 - now
  · rw [if_pos hi, follow_get _ _ _ _ _ _ i (by omega), gF_on m now h]
  · rw [if_neg hi, List.getElem?_eq_none (by rw [follow_len]; omega)]
theorem follow_free (s : Space) (m : Seen) (now : Nat) (hn : now ≤ 60) (x : Sp) : s.follow m (-1) (61 - (now : Int)).toNat now x = s.onL now x := by
  apply List.ext_getElem?
  intro i
  rw [onL_get]
  by_cases hi : i < 61 - now
  · rw [if_pos hi, follow_get _ _ _ _ _ _ i (by omega)]
    congr 2
    have : ∀ i : Nat, s.gF m (-1) now x i = s.on now x i := by
      intro i
      induction i with
      | zero => rw [Space.gF, knownAt, if_neg (by omega)]; rfl
      | succ i ih => rw [Space.gF, ih, knownAt, if_neg (by omega)]; rfl
    exact this i
  · rw [if_neg hi, List.getElem?_eq_none (by rw [follow_len]; omega)]

theorem untilL_ge (lim : Int) : ∀ (xs : List (Int × Sp)) (base last : Int), (∀ (i : Nat) z, xs[i]? = some z → z.1 = base + i) → last ≤ base → last ≤ untilL lim xs last
  | [], _, last, _, _ => Int.le_refl last
  | x :: r, base, last, hb, hl => by
    have hx := hb 0 x rfl
    unfold untilL
    cases decide (x.2.hi > lim) with
    | true => exact Int.le_refl last
    | false =>
      have := untilL_ge lim r (base + 1) x.1 (fun j w hw => by have := hb (j + 1) w (by simpa using hw); omega) (by omega)
      simp only
      omega

theorem untilL_mono {lim lim' : Int} : ∀ (xs ys : List (Int × Sp)) (base last last' : Int), (∀ (i : Nat) z, xs[i]? = some z → z.1 = base + i) → (∀ (i : Nat) z, ys[i]? = some z → z.1 = base + i) → xs.length = ys.length →
    (∀ (i : Nat) x y, xs[i]? = some x → ys[i]? = some y → x.2.hi ≤ lim → y.2.hi ≤ lim') → last ≤ last' → last' ≤ base → untilL lim xs last ≤ untilL lim' ys last'
  | [], ys, base, last, last', _, hy, hl, _, h1, h2 => by
    have : ys = [] := List.eq_nil_of_length_eq_zero (by simpa using hl.symm)
    subst this
    exact h1
  | x :: xs, [], _, _, _, _, _, hl, _, _, _ => by simp at hl
  | x :: xs, y :: ys, base, last, last', hx, hy, hl, hr, h1, h2 => by
    have hx0 := hx 0 x rfl
    have hy0 := hy 0 y rfl
    have hy' : ∀ (i : Nat) z, ys[i]? = some z → z.1 = base + 1 + i := fun j w hw => by have := hy (j + 1) w (by simpa using hw); omega
    have hx' : ∀ (i : Nat) z, xs[i]? = some z → z.1 = base + 1 + i := fun j w hw => by have := hx (j + 1) w (by simpa using hw); omega
    have hr0 := hr 0 x y rfl rfl
    rw [untilL, untilL]
    cases hd : decide (x.2.hi > lim) with
    | true =>
      cases decide (y.2.hi > lim') with
      | true => exact h1
      | false =>
        have := untilL_ge lim' ys (base + 1) y.1 hy' (by omega)
        simp only
        omega
    | false =>
      have hd := of_decide_eq_false hd
      have : decide (y.2.hi > lim') = false := decide_eq_false (by have := hr0 (by omega); omega)
      rw [this]
      simp only
      refine untilL_mono xs ys (base + 1) x.1 y.1 hx' hy' (by simpa using hl) (fun i a b ha hb => hr (i + 1) a b (by simpa using ha) (by simpa using hb)) (by omega) (by omega)

theorem untilOn_mono {s s' : Space} {now : Nat} {x y : Sp} (h : ∀ i, now + i ≤ 60 → (s.on now x i).hi ≤ s.limit → (s'.on now y i).hi ≤ s'.limit) : s.untilOn now x ≤ s'.untilOn now y := by
  unfold Space.untilOn
  have hb : ∀ (s : Space) (x : Sp) (i : Nat) z, (s.onL now x)[i]? = some z → z.1 = (now : Int) + i := fun s x i z hz => by
    rw [onL_get] at hz
    split at hz
    · cases hz; rfl
    · cases hz
  refine untilL_mono (s.onL now x) (s'.onL now y) now (-1) (-1) (hb s x) (hb s' y) (by simp [Space.onL]) (fun i a b ha hb => ?_) (Int.le_refl _) (by omega)
  rw [onL_get] at ha hb
  split at ha
  · rename_i hi
    rw [if_pos hi] at hb
    cases ha; cases hb
    exact h i (by omega)
  · cases ha

/-- A span in a span. -/
def Sp.sub (x y : Sp) : Prop := ∀ n, inB n x = true → inB n y = true
theorem sub_refl (x : Sp) : x.sub x := fun _ h => h
theorem sub_bounds {x y : Sp} (h : x.sub y) (hx : x.lev) (hn : ¬ x = none') : y.lo ≤ x.lo ∧ x.hi ≤ y.hi ∧ ¬ y = none' := by
  rcases hx with hx | hx
  · exact absurd hx hn
  · have h1 := inB_iff.1 (h x.lo (inB_iff.2 ⟨Int.le_refl _, hx.2.1⟩))
    have h2 := inB_iff.1 (h x.hi (inB_iff.2 ⟨hx.2.1, Int.le_refl _⟩))
    refine ⟨h1.1, h2.2, fun e => ?_⟩
    have := h x.lo (inB_iff.2 ⟨Int.le_refl _, hx.2.1⟩)
    rw [e, inB_none] at this
    cases this
theorem sub_none {x y : Sp} (h : x.sub y) (hx : x.lev) (hy : y = none') : x = none' := Classical.byContradiction fun hn => (sub_bounds h hx hn).2.2 hy
/-- A space with less gas. -/
structure Space.le (s s' : Space) : Prop where
  start : s.start.sub s'.start
  rise : ∀ t, (s'.riseAt t).lo ≤ (s.riseAt t).lo ∧ (s.riseAt t).hi ≤ (s'.riseAt t).hi
theorem Space.le_refl (s : Space) : s.le s := ⟨sub_refl _, fun t => ⟨Int.le_refl _, Int.le_refl _⟩⟩
theorem later_sub {s s' : Space} (h : s.le s') {x y : Sp} (hxy : x.sub y) (hx : x.lev) (t : Int) : (s.later t x).sub (s'.later t y) := by
  by_cases hn : x = none'
  · have : s.later t x = none' := by unfold Space.later; rw [if_pos hn, hn]
    rw [this]
    intro n hn
    rw [inB_none] at hn; cases hn
  · obtain ⟨h1, h2, h3⟩ := sub_bounds hxy hx hn
    have hr := h.rise t
    have e1 : s.later t x = ⟨limited (x.lo + (s.riseAt t).lo), limited (x.hi + (s.riseAt t).hi)⟩ := if_neg hn
    have e2 : s'.later t y = ⟨limited (y.lo + (s'.riseAt t).lo), limited (y.hi + (s'.riseAt t).hi)⟩ := if_neg h3
    rw [e1, e2]
    intro n hn
    have := inB_iff.1 hn
    refine inB_iff.2 ?_
    unfold limited at *
    simp only at *
    omega
theorem both_sub {a b c d : Sp} (h1 : a.sub c) (h2 : b.sub d) : (both a b).sub (both c d) := by
  intro n hn
  rw [mem_both, Bool.and_eq_true] at hn ⊢
  exact ⟨h1 n hn.1, h2 n hn.2⟩
theorem lv_sub {s s' : Space} (h : s.le s') (hv : s.Valid) {m m' : Seen} : ∀ t : Nat, (∀ i : Nat, i ≤ t → (left m i).sub (left m' i)) → (s.lv m t).sub (s'.lv m' t)
  | 0, hl => both_sub h.start (hl 0 (Nat.le_refl 0))
  | t + 1, hl => by
    have ih := lv_sub h hv t fun i hi => hl i (by omega)
    exact both_sub (later_sub h ih (lv_lev hv m t) t) (hl (t + 1) (Nat.le_refl _))
theorem on_sub {s s' : Space} (h : s.le s') (hv : s.Valid) (t : Int) {x y : Sp} (hxy : x.sub y) (hx : x.lev) : ∀ i, (s.on t x i).sub (s'.on t y i)
  | 0 => hxy
  | i + 1 => later_sub h (on_sub h hv t hxy hx i) (on_lev hv t hx i) _

theorem good_read' {s : Space} {l : List Rd} (h : s.good l) : s.readE l = 0 := readE_zero.2 ⟨h.v, h.len, readsE_zero.2 h.ok⟩
/-- What Level and Until return of valid readings. -/
theorem answers {s : Space} {l : List Rd} (h : s.good l) {now : Nat} (hn : now ≤ 60) :
    (s.lv (s.seen l) now = none' → s.levelE l now = (⟨0, 0⟩, 9) ∧ s.untilE l now = (0, 9)) ∧
    (¬ s.lv (s.seen l) now = none' → s.levelE l now = (s.lv (s.seen l) now, 0) ∧ s.untilE l now = (s.untilOn now (s.lv (s.seen l) now), 0)) := by
  have h1 := levelE_eq (minute := (now : Int)) (good_read' h) (by omega)
  rw [Int.toNat_natCast] at h1
  refine ⟨fun e => ?_, fun e => ?_⟩
  · rw [if_pos e] at h1
    exact ⟨h1, untilE_bad h1 (by decide)⟩
  · rw [if_neg e] at h1
    refine ⟨h1, ?_⟩
    rw [untilE_ok h1 rfl]
    simp only
    rw [follow_on s (s.seen l) now hn (both_lv h.v (s.seen l) now)]
    rfl

end Go.Proofs.Gas
