/- A refusal's truth; until when: the plain law; Until when, and what is known then: the plain law. No condition. -/
import Derived.Test.YtekancfhpbbieaaPackGQ
import Derived.Test.YtekancfhpbbieaaPackGC

namespace Go.Proofs.Gas
open Go.V Go.Proofs

theorem both_lev_r {a b : Sp} (hb : b.lev) : (both a b).lev := by
  unfold both
  split
  · exact .inl rfl
  · rename_i h
    have h1 : ¬ max a.lo b.lo > min a.hi b.hi := fun e => h (.inr (.inr e))
    have h2 : ¬ b = none' := fun e => h (.inr (.inl e))
    rcases hb with hb | hb
    · exact absurd hb h2
    · refine .inr ?_
      simp only
      omega
theorem left_lev {m : Seen} (h : m.ok) (t : Int) : (left m t).lev := by
  rcases (h t).1 with h1 | h1
  · have h2 := (h t).2 _ (inB_iff.2 ⟨Int.le_refl _, h1⟩)
    have h3 := (h t).2 _ (inB_iff.2 ⟨h1, Int.le_refl _⟩)
    exact .inr ⟨by omega, h1, by omega⟩
  · exact .inl h1
theorem lev_of_mem {x : Sp} (hx : x.lev) {n : Int} (h : inB n x = true) : 0 ≤ x.lo ∧ x.lo ≤ x.hi ∧ x.hi ≤ 200 := by
  rcases hx with hx | hx
  · rw [hx, inB_none] at h; cases h
  · exact hx

theorem mem_lead {s : Space} {t : Int} {th : Sp} (hth : 0 ≤ th.lo ∧ th.lo ≤ th.hi ∧ th.hi ≤ 200) {n : Int} (hn : 0 ≤ n ∧ n ≤ 200) :
    inB n (s.leadX t th) = true ↔ (limited (n + (s.riseAt t).lo) ≤ th.hi ∧ th.lo ≤ limited (n + (s.riseAt t).hi)) := by
  rw [inB_iff]
  unfold Space.leadX limited
  simp only
  by_cases h1 : th.lo > 0
  · by_cases h2 : th.hi < 200
    · rw [if_pos h1, if_pos h2]; omega
    · rw [if_pos h1, if_neg h2]; omega
  · by_cases h2 : th.hi < 200
    · rw [if_neg h1, if_pos h2]; omega
    · rw [if_neg h1, if_neg h2]; omega

theorem pre_later {s : Space} (hv : s.Valid) {x : Sp} (hx : x.lev) {t v : Int} (h : inB v (s.later t x) = true) :
    ∃ n, inB n x = true ∧ limited (n + (s.riseAt t).lo) ≤ v ∧ v ≤ limited (n + (s.riseAt t).hi) := by
  have hr := riseAt_le hv t
  have hn : ¬ x = none' := fun e => by
    have : s.later t x = none' := by unfold Space.later; rw [if_pos e, e]
    rw [this, inB_none] at h; cases h
  have e1 : s.later t x = ⟨limited (x.lo + (s.riseAt t).lo), limited (x.hi + (s.riseAt t).hi)⟩ := if_neg hn
  rw [e1] at h
  have h := inB_iff.1 h
  simp only at h
  rcases hx with hx | hx
  · exact absurd hx hn
  · refine ⟨max x.lo (min x.hi (v - (s.riseAt t).hi)), inB_iff.2 (by omega), ?_, ?_⟩
    · unfold limited at *; omega
    · unfold limited at *; omega

theorem back_lev {m : Seen} (hm : m.ok) (s : Space) (hl : 0 ≤ s.limit ∧ s.limit ≤ 200) (k : Nat) : ∀ j, (s.back m k j).lev
  | 0 => both_lev (left_lev hm k)
  | j + 1 => both_lev_r (left_lev hm _)

theorem back_meet {s : Space} (hv : s.Valid) {m : Seen} (hm : m.ok) {k : Nat} {v : Int} (h1 : inB v (s.lv m k) = true) (h2 : v > s.limit) : ∀ j, j ≤ k → ∃ n, inB n (s.lv m (k - j)) = true ∧ inB n (s.back m k j) = true
  | 0, _ => by
    refine ⟨v, h1, ?_⟩
    have h3 := lev_of_mem (lv_lev hv m k) h1
    have h4 := inB_iff.1 h1
    rw [Space.back, mem_both, lv_in s m k v h1, Bool.true_and]
    exact inB_iff.2 ⟨by simp only; omega, by simp only; omega⟩
  | j + 1, hj => by
    obtain ⟨w, hw1, hw2⟩ := back_meet hv hm h1 h2 j (by omega)
    have e : k - j = (k - (j + 1)) + 1 := by omega
    rw [e, Space.lv, mem_both, Bool.and_eq_true] at hw1
    obtain ⟨n, hn1, hn2, hn3⟩ := pre_later hv (lv_lev hv m _) hw1.1
    have hl := lev_of_mem (lv_lev hv m _) hn1
    have hb := lev_of_mem (back_lev hm s hv.limit k j) hw2
    have hwb := inB_iff.1 hw2
    have hnb := inB_iff.1 hn1
    refine ⟨n, hn1, ?_⟩
    have e2 : ((k : Int) - ((j + 1 : Nat) : Int)) = ((k - (j + 1) : Nat) : Int) := by omega
    rw [Space.back, Space.lead, e2, mem_both, lv_in s m _ n hn1, Bool.and_true]
    exact (mem_lead hb (by omega)).2 ⟨by omega, by omega⟩

/-- The candidates of a truth, and the truth itself. -/
def Space.cw (s : Space) (B : Nat → Sp) : Nat → Int
  | 0 => s.start.lo
  | j + 1 => limited (max (s.cw B j) (B j).lo + (s.riseAt j).lo)
def Space.tw (s : Space) (B : Nat → Sp) (j : Nat) : Int := max (s.cw B j) (B j).lo
theorem walkT_tw (s : Space) (B : Nat → Sp) : ∀ (n a : Nat), s.walkT ((List.range n).map fun i => B (a + i)) a (s.cw B a) = (List.range n).map fun i => s.tw B (a + i)
  | 0, _ => rfl
  | n + 1, a => by
    have ih := walkT_tw s B n (a + 1)
    have e1 : (List.range (n + 1)).map (fun i => B (a + i)) = B a :: (List.range n).map fun i => B (a + 1 + i) := by
      rw [List.range_succ_eq_map, List.map_cons, List.map_map]
      congr 1
      refine List.map_congr_left fun i _ => ?_
      show B (a + (i + 1)) = B (a + 1 + i)
      congr 1; omega
    have e2 : (List.range (n + 1)).map (fun i => s.tw B (a + i)) = s.tw B a :: (List.range n).map fun i => s.tw B (a + 1 + i) := by
      rw [List.range_succ_eq_map, List.map_cons, List.map_map]
      congr 1
      refine List.map_congr_left fun i _ => ?_
      show s.tw B (a + (i + 1)) = s.tw B (a + 1 + i)
      congr 1; omega
    rw [e1, e2, Space.walkT]
    have e3 : ((a : Int) + 1) = ((a + 1 : Nat) : Int) := by omega
    rw [e3]
    congr 1

/-- A REFUSAL HAS A TRUTH. -/
theorem refusal_truth {s : Space} {l : List Rd} (h : s.good l) {k : Nat} (hk : k ≤ 60) (hne : ¬ s.lv (s.seen l) k = none') (hhi : (s.lv (s.seen l) k).hi > s.limit) :
    ∃ f : Nat → Int, s.refusalE l k = ((List.range (k + 1)).map f, 0) ∧ s.path f k ∧ (∀ j : Nat, j ≤ k → s.agrees l j (f j) = true) ∧ f k > s.limit ∧ ∀ j : Nat, j ≤ k → 0 ≤ f j ∧ f j ≤ 200 := by
  have hv := h.v
  have hm := seen_ok s l
  obtain ⟨m, hme⟩ : ∃ m, s.seen l = m := ⟨_, rfl⟩
  rw [hme] at hm hne hhi
  have hll := lv_lev hv m k
  have hin : inB (s.lv m k).hi (s.lv m k) = true := by
    rcases hll with h | h
    · exact absurd h hne
    · exact inB_iff.2 ⟨h.2.1, Int.le_refl _⟩
  have hmeet := back_meet hv hm hin hhi
  let B : Nat → Sp := fun j => s.back m k (k - j)
  have hB : ∀ j, j ≤ k → 0 ≤ (B j).lo ∧ (B j).lo ≤ (B j).hi ∧ (B j).hi ≤ 200 := fun j hj => by
    obtain ⟨n, _, hn⟩ := hmeet (k - j) (by omega)
    exact lev_of_mem (back_lev hm s hv.limit k (k - j)) hn
  have hB0 : s.start.lo ≤ (B 0).hi ∧ (B 0).lo ≤ s.start.hi := by
    obtain ⟨n, h1, h2⟩ := hmeet k (Nat.le_refl k)
    rw [Nat.sub_self, Space.lv, mem_both, Bool.and_eq_true] at h1
    have h3 := inB_iff.1 h1.1
    have h4 := inB_iff.1 h2
    show s.start.lo ≤ (s.back m k (k - 0)).hi ∧ (s.back m k (k - 0)).lo ≤ s.start.hi
    rw [Nat.sub_zero]
    omega
  have hleft : ∀ j n, j ≤ k → inB n (B j) = true → inB n (left m j) = true := fun j n hj hn => by
    have hn : inB n (s.back m k (k - j)) = true := hn
    rcases Nat.eq_zero_or_pos (k - j) with h0 | h0
    · rw [h0, Space.back, mem_both, Bool.and_eq_true] at hn
      have : j = k := by omega
      rw [this]; exact hn.1
    · obtain ⟨i, hi⟩ : ∃ i, k - j = i + 1 := ⟨k - j - 1, by omega⟩
      rw [hi, Space.back, Space.lead, mem_both, Bool.and_eq_true] at hn
      have e : ((k : Int) - ((i + 1 : Nat) : Int)) = j := by omega
      rw [e] at hn
      exact hn.2
  have hstep : ∀ j n, j + 1 ≤ k → inB n (B j) = true → limited (n + (s.riseAt j).lo) ≤ (B (j + 1)).hi ∧ (B (j + 1)).lo ≤ limited (n + (s.riseAt j).hi) := fun j n hj hn => by
    have hn2 := inB_iff.1 hn
    have hr := hB j (by omega)
    have hn : inB n (s.back m k (k - j)) = true := hn
    have e0 : k - j = (k - (j + 1)) + 1 := by omega
    rw [e0, Space.back, Space.lead, mem_both, Bool.and_eq_true] at hn
    have e : ((k : Int) - ((k - (j + 1) + 1 : Nat) : Int)) = j := by omega
    rw [e] at hn
    exact (mem_lead (hB (j + 1) hj) (by omega)).1 hn.1
  have hP : ∀ j, j ≤ k → s.cw B j ≤ (B j).hi := by
    intro j
    induction j with
    | zero => intro _; exact hB0.1
    | succ j ih =>
      intro hj
      have h1 := ih (by omega)
      have h2 := hB j (by omega)
      exact (hstep j (s.tw B j) hj (inB_iff.2 ⟨by unfold Space.tw; omega, by unfold Space.tw; omega⟩)).1
  have hT : ∀ j, j ≤ k → inB (s.tw B j) (B j) = true := fun j hj => by
    have h1 := hP j hj
    have h2 := hB j hj
    exact inB_iff.2 ⟨by unfold Space.tw; omega, by unfold Space.tw; omega⟩
  have hTr : ∀ j, j ≤ k → 0 ≤ s.tw B j ∧ s.tw B j ≤ 200 := fun j hj => by
    have h1 := inB_iff.1 (hT j hj)
    have h2 := hB j hj
    omega
  refine ⟨s.tw B, ?_, ⟨?_, fun t ht => ?_⟩, fun j hj => ?_, ?_, hTr⟩
  · have hl := levelE_eq (minute := (k : Int)) (good_read' h) (by omega)
    rw [Int.toNat_natCast, hme, if_neg hne] at hl
    rw [refusalE_ok hl rfl (decide_eq_false (by simp only; omega)), hme, Int.toNat_natCast]
    congr 1
    have := walkT_tw s B (k + 1) 0
    unfold Space.allB
    simp only [Nat.zero_add] at this
    exact this
  · have := hB0
    have hst := hv.start
    refine inB_iff.2 ⟨?_, ?_⟩
    · show s.start.lo ≤ max s.start.lo (B 0).lo; omega
    · show max s.start.lo (B 0).lo ≤ s.start.hi; omega
  · have h1 := hstep t (s.tw B t) ht (hT t (by omega))
    have e : s.tw B (t + 1) = max (limited (s.tw B t + (s.riseAt t).lo)) (B (t + 1)).lo := rfl
    have hr := riseAt_le hv t
    rw [e]
    refine ⟨by omega, ?_⟩
    have : limited (s.tw B t + (s.riseAt t).lo) ≤ limited (s.tw B t + (s.riseAt t).hi) := by unfold limited; omega
    omega
  · have h1 := hleft j _ hj (hT j hj)
    rw [← hme, left_seen h.ok _ _ (hTr j hj)] at h1
    exact h1
  · have h1 := hT k (Nat.le_refl k)
    have h1 : inB (s.tw B k) (s.back m k (k - k)) = true := h1
    rw [Nat.sub_self, Space.back, mem_both, Bool.and_eq_true] at h1
    have := inB_iff.1 h1.2
    simp only at this
    omega

end Go.Proofs.Gas

namespace Go.Proofs.Gas
open Go.V Go.Proofs

theorem untilL_stop (lim : Int) : ∀ (xs : List (Int × Sp)) (base last : Int), (∀ (i : Nat) z, xs[i]? = some z → z.1 = base + i) → last = base - 1 →
    base - 1 ≤ untilL lim xs last ∧ (untilL lim xs last = base - 1 + xs.length ∨ ∃ (i : Nat) (z : Int × Sp), xs[i]? = some z ∧ z.1 = untilL lim xs last + 1 ∧ z.2.hi > lim)
  | [], base, last, _, hl => by
    refine ⟨?_, .inl ?_⟩
    · show base - 1 ≤ last; omega
    · show last = base - 1 + ((0 : Nat) : Int); omega
  | x :: r, base, last, hb, hl => by
    have hx := hb 0 x rfl
    rw [untilL]
    cases hd : decide (x.2.hi > lim) with
    | true =>
      refine ⟨?_, .inr ⟨0, x, rfl, ?_, of_decide_eq_true hd⟩⟩
      · simp only; omega
      · simp only; omega
    | false =>
      obtain ⟨h1, h2⟩ := untilL_stop lim r (base + 1) x.1 (fun j w hw => by have := hb (j + 1) w (by simpa using hw); omega) (by omega)
      simp only
      refine ⟨by omega, ?_⟩
      rcases h2 with h2 | ⟨i, z, h3, h4, h5⟩
      · refine .inl ?_
        rw [h2, List.length_cons]; omega
      · exact .inr ⟨i + 1, z, by simpa using h3, h4, h5⟩

theorem onL_cons (s : Space) {now : Nat} (hn : now ≤ 60) (x : Sp) : ∃ r, s.onL now x = ((now : Int), x) :: r ∧ r.length = 60 - now ∧ ∀ (i : Nat) z, r[i]? = some z → z.1 = (now : Int) + 1 + i ∧ now + (i + 1) ≤ 60 ∧ z = ((now : Int) + (i + 1 : Nat), s.on now x (i + 1)) := by
  have h0 := onL_get s now x 0
  cases h : s.onL now x with
  | nil => rw [h, if_pos (by omega)] at h0; simp at h0
  | cons a r =>
    rw [h, if_pos (by omega)] at h0
    have h0 : a = ((now : Int) + (0 : Nat), s.on now x 0) := by simpa using h0
    refine ⟨r, ?_, ?_, fun i z hz => ?_⟩
    · rw [h0]; simp [Space.on]
    · have := congrArg List.length h
      simp [Space.onL] at this
      omega
    · have h1 := onL_get s now x (i + 1)
      rw [h, List.getElem?_cons_succ, hz] at h1
      by_cases hi : i + 1 < 61 - now
      · rw [if_pos hi] at h1
        have h1 := Option.some.inj h1
        rw [h1]
        refine ⟨by simp only; omega, by omega, rfl⟩
      · rw [if_neg hi] at h1; cases h1

theorem until_neg (s : Space) {now : Nat} (hn : now ≤ 60) {x : Sp} (h : x.hi > s.limit) : s.untilOn now x = -1 := by
  obtain ⟨r, h1, _⟩ := onL_cons s hn x
  unfold Space.untilOn
  rw [h1, untilL, decide_eq_true h]
theorem until_pos (s : Space) {now : Nat} (hn : now ≤ 60) {x : Sp} (h : ¬ x.hi > s.limit) : (now : Int) ≤ s.untilOn now x ∧
    (s.untilOn now x = 60 ∨ ∃ i : Nat, now + i ≤ 60 ∧ s.untilOn now x + 1 = ((now + i : Nat) : Int) ∧ (s.on now x i).hi > s.limit) := by
  obtain ⟨r, h1, h2, h3⟩ := onL_cons s hn x
  unfold Space.untilOn
  rw [h1, untilL, decide_eq_false h]
  simp only
  obtain ⟨g1, g2⟩ := untilL_stop s.limit r ((now : Int) + 1) now (fun i z hz => (h3 i z hz).1) (by omega)
  refine ⟨by omega, ?_⟩
  rcases g2 with g2 | ⟨i, z, g3, g4, g5⟩
  · refine .inl ?_
    rw [g2, h2]; omega
  · obtain ⟨e1, e2, e3⟩ := h3 i z g3
    refine .inr ⟨i + 1, e2, by omega, ?_⟩
    rw [e3] at g5
    exact g5

/-- The readings that are known at a minute. -/
def kn (l : List Rd) (now : Int) : List Rd := l.filter fun r => decide (r.minute ≤ now)
theorem kn_le (s : Space) {now t n : Int} (ht : t ≤ now) : ∀ l : List Rd, s.agrees (kn l now) t n = s.agrees l t n
  | [] => rfl
  | r :: l => by
    have ih := kn_le s (n := n) ht l
    unfold kn Space.agrees at *
    rw [List.filter_cons, List.all_cons]
    by_cases h : r.minute ≤ now
    · rw [if_pos (by simpa using h), List.all_cons, ih]
    · rw [if_neg (by simpa using h), ih, fits_in, if_neg (by omega), Bool.true_and]
theorem kn_gt (s : Space) {now t n : Int} (ht : t > now) (l : List Rd) : s.agrees (kn l now) t n = true := by
  unfold kn Space.agrees
  rw [List.all_eq_true]
  intro r hr
  have := (List.mem_filter.1 hr).2
  have : r.minute ≤ now := by simpa using this
  rw [fits_in, if_neg (by omega)]
theorem kn_good {s : Space} {l : List Rd} (h : s.good l) (now : Int) : s.good (kn l now) :=
  ⟨h.v, Nat.le_trans (List.length_filter_le _ _) h.len, fun r hr => h.ok r (List.mem_filter.1 hr).1⟩

theorem lv_known {s : Space} {l : List Rd} (h : s.good l) (now : Nat) : ∀ i : Nat, s.lv (s.seen (kn l now)) (now + i) = s.on now (s.lv (s.seen l) now) i
  | 0 => lv_congr now fun i hi => left_congr (kn_good h now).ok h.ok fun n => kn_le s (by omega) l
  | i + 1 => by
    have ih := lv_known h now i
    have e1 : now + (i + 1) = (now + i) + 1 := rfl
    have hl : left (s.seen (kn l now)) (((now + i : Nat) : Int) + 1) = ⟨0, 200⟩ := by
      have := left_congr (s := s) (l := kn l now) (l' := []) (kn_good h now).ok (fun r hr => by cases hr) (t := ((now + i : Nat) : Int) + 1) fun n => by
        rw [kn_gt s (by omega) l]; rfl
      rw [this]; rfl
    rw [e1, Space.lv, ih, hl, both_full (later_lev h.v (on_lev h.v _ (lv_lev h.v _ _) i) _)]
    have e2 : ((now + i : Nat) : Int) = (now : Int) + i := by omega
    rw [e2]
    rfl

end Go.Proofs.Gas
