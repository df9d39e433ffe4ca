/- Until when a reading holds, in the reference; The fewest readings: the document's search and the program's; How few readings are enough from each minute on, in the reference; The fewest readings, in the reference. No condition. -/
import Derived.Test.YtekancfhpbbieaaPackGH
import Derived.Test.YtekancfhpbbieaaPackGC

namespace Go.Proofs.Gas
open Go.V Go.Proofs

theorem on_hi {s : Space} (hv : s.Valid) (t : Int) {x : Sp} (hx : x.lev) (hn : ¬ x = none') (i : Nat) : (s.on t x (i + 1)).hi = limited ((s.on t x i).hi + (s.riseAt (t + i)).hi) := by
  have h := on_ne hv t hx hn i
  rw [Space.on, Space.later, if_neg h]
theorem gF_free (s : Space) (m : Seen) (t : Int) (ht : 0 ≤ t) (x : Sp) : ∀ i : Nat, s.gF m (-1) t x i = s.on t x i
  | 0 => by rw [Space.gF, knownAt, if_neg (by omega)]; rfl
  | i + 1 => by rw [Space.gF, gF_free s m t ht x i, knownAt, if_neg (by omega)]; rfl

theorem den66 (s : Space) (hv : s.Valid) (tool shown minute : Int) (ht : 0 ≤ tool ∧ tool < s.tools.length) (hs : -50 ≤ shown ∧ shown ≤ 250) (hmin : 0 ≤ minute ∧ minute ≤ 60) :
    DN 66 [.agg s.enc, .int .i64 tool, .int .i64 shown, .int .i64 minute] (.int .i64 (s.holdsE tool shown minute)) := by
  refine mk Try.func66 Try.call66 rfl rfl ?_
  obtain ⟨x, hx⟩ : ∃ x, s.tools[tool.toNat]? = some x := ⟨_, List.getElem?_eq_getElem (by omega)⟩
  have hxe : s.err tool = x.2 := by unfold Space.err; rw [hx]
  have hxr := hv.err tool
  rw [hxe] at hxr
  have hrow2 : (s.tools.map encT)[tool.toNat]? = some (encT x) := by rw [List.getElem?_map, hx]; rfl
  refine ⟨ht.1, _, hrow2, ?_⟩
  refine ⟨_, wrap64 (by omega) (by omega), ?_⟩
  have hl0 : s.level0 tool shown = min 200 (shown + x.2) := by rw [Space.level0, hxe]
  obtain ⟨a, ha⟩ : ∃ a, min 200 (shown + x.2) = a := ⟨_, rfl⟩
  rw [ha] at hl0
  by_cases hneg : a < 0
  · rw [holdsE_neg (by rw [hl0]; exact hneg)]
    refine ⟨[4, 9, 10, 11], 1, [], fun σ => σ = ⟨[(4, .loc 0 0), (9, .int .i64 (min 200 (shown + x.2))), (10, .int .i64 (-1)), (11, .int .i64 minute)], [.flat false s.enc], .non⟩, fun σ => 0, rfl, ⟨rfl, rfl⟩, rfl, ?_⟩
    rintro σ rfl
    refine ⟨fun _ => ?_, fun _ => rfl⟩
    refine ⟨fun h2 => ?_, fun _ => rfl⟩
    have h2 : min 200 (shown + x.2) ≥ 0 := of_decide_eq_true h2
    omega
  · have hne : ¬ s.level0 tool shown < 0 := by rw [hl0]; exact hneg
    rw [holdsE_pos hne, hl0]
    have hxl : Sp.lev ⟨a, a⟩ := .inr ⟨by simp only; omega, Int.le_refl _, by simp only; omega⟩
    have hxn : ¬ (⟨a, a⟩ : Sp) = none' := fun e => by
      have h1 := congrArg Sp.lo e
      have h2 := congrArg Sp.hi e
      simp only [none'] at h1 h2
      omega
    obtain ⟨xs, hxs⟩ : ∃ xs, s.follow [] (-1) (61 - minute).toNat minute ⟨a, a⟩ = xs := ⟨_, rfl⟩
    rw [hxs]
    have hget : ∀ i : Nat, minute + i ≤ 60 → xs[i]? = some (minute + i, s.on minute ⟨a, a⟩ i) := fun i hi => by
      rw [← hxs, follow_get s [] (-1) _ minute ⟨a, a⟩ i (by omega), gF_free s [] minute hmin.1]
    have hlen : xs.length = (61 - minute).toNat := by rw [← hxs, follow_len]
    obtain ⟨f, hf⟩ : ∃ f, s.on minute ⟨a, a⟩ = f := ⟨_, rfl⟩
    have hlev : ∀ i, 0 ≤ (f i).hi ∧ (f i).hi ≤ 200 := fun i => by
      have h1 := on_lev hv minute hxl i
      have h2 := on_ne hv minute hxl hxn i
      rw [hf] at h1 h2
      rcases h1 with h1 | h1
      · exact absurd h1 h2
      · omega
    have hstep : ∀ i : Nat, (f (i + 1)).hi = limited ((f i).hi + (s.riseAt (minute + i)).hi) := fun i => by
      have := on_hi hv minute hxl hxn i
      rw [hf] at this
      exact this
    have hf0 : (f 0).hi = a := by rw [← hf]; rfl
    rw [hf] at hget
    refine ⟨[4, 9, 10, 11], 1, [], fun σ => ∃ (i : Nat) (t last lev : Int), t = minute + i ∧ t ≤ 61 ∧ lev = (f i).hi ∧ untilL s.limit xs (-1) = untilL s.limit (xs.drop i) last ∧
      σ = ⟨[(4, .loc 0 0), (9, .int .i64 lev), (10, .int .i64 last), (11, .int .i64 t)], [.flat false s.enc], .non⟩, fun σ => (1000 - slotI 11 σ).toNat, rfl, ⟨rfl, rfl⟩, ⟨0, minute, -1, min 200 (shown + x.2), by omega, by omega, by rw [hf0, ha], rfl, rfl⟩, ?_⟩
    rintro σ ⟨i, t, last, lev, hti, ht2, hle, hu, rfl⟩
    have hli := hlev i
    rw [← hle] at hli
    refine ⟨fun h1 => ?_, fun h1 => ?_⟩
    · have h1 : t ≤ 60 := of_decide_eq_true h1
      have hg := hget i (by omega)
      have hdrop : xs.drop i = (minute + i, f i) :: xs.drop (i + 1) := by
        have hi : i < xs.length := (List.getElem?_eq_some_iff.1 hg).1
        rw [List.drop_eq_getElem_cons hi, (List.getElem?_eq_some_iff.1 hg).2]
      rw [hdrop, untilL] at hu
      simp only at hu
      rw [← hle] at hu
      refine ⟨fun h2 => ?_, fun h2 => ?_⟩
      · refine ⟨fun h3 => ?_, fun h3 => ?_⟩
        · have h3 : lev ≤ s.limit := of_decide_eq_true h3
          have h4 : decide (lev > s.limit) = false := decide_eq_false (by omega)
          rw [h4] at hu
          have hr := riseAt_le hv t
          refine ⟨_, rfl, _, den61 s t (by have := hv.blen; omega), ?_⟩
          refine ⟨_, wrap64 (by omega) (by omega), ?_⟩
          refine ⟨_, rfl, _, den62 _, ?_⟩
          refine ⟨_, wrap64 (by omega) (by omega), ?_⟩
          refine ⟨⟨rfl, rfl⟩, ⟨i + 1, t + 1, t, limited (lev + (s.riseAt t).hi), by omega, by omega, by rw [hstep i, hle, hti], by rw [hu, hti], rfl⟩, by show (1000 - (t + 1)).toNat < (1000 - t).toNat; omega⟩
        · have h3 : ¬ lev ≤ s.limit := of_decide_eq_false h3
          have h4 : decide (lev > s.limit) = true := decide_eq_true (by omega)
          rw [h4] at hu
          show some (D.int .i64 last) = some _
          rw [hu]
      · have h2 : ¬ lev ≥ 0 := of_decide_eq_false h2
        omega
    · have h1 : ¬ t ≤ 60 := of_decide_eq_false h1
      rw [List.drop_of_length_le (by omega)] at hu
      show some (D.int .i64 last) = some _
      rw [hu]; rfl

theorem den65 (s : Space) (tool shown frm to : Int) : DN 65 [.agg s.enc, .int .i64 tool, .int .i64 shown, .int .i64 frm, .int .i64 to] (.int .i64 (s.tooledE tool shown [frm, to]).2) := by
  refine mk Try.func65 Try.call65 rfl rfl ?_
  have fin : ∀ {p q : Int}, p = q → some (D.int .i64 p) = some (D.int .i64 q) := fun h => by rw [h]
  have hlt : ((s.tools.map encT).length : Int) = s.tools.length := by simp
  refine ⟨_, rfl, _, den16 s, ?_⟩
  refine ⟨fun h1 => ?_, fun h1 => ?_⟩
  · have h1 : (s.err0 == 0) = true := h1
    have h0 : s.err0 = 0 := by simpa using h1
    have hb : (s.err0 != 0) = false := by simpa using h0
    have hv := s.valid_iff.1 h0
    have hc0 : s.check.2.2 = 0 := h0
    rw [hc0]
    refine ⟨(s.tools.length : Int) - 1, ?_, ?_⟩
    · show IntKind.i64.wrap (((s.tools.map encT).length : Int) - 1) = _
      have := hv.tlen
      rw [hlt, wrap64 (by omega) (by omega)]
    refine ⟨_, rfl, _, den46 tool 0 ((s.tools.length : Int) - 1), ?_⟩
    have e1 : (!(inR tool 0 ((s.tools.length : Int) - 1))) = [tool].any (outB 0 ((s.tools.length : Int) - 1)) := by rw [not_inR]; simp
    have e2 : (!(inR shown (-50) 250)) = [shown].any (outB (-50) 250) := by rw [not_inR]; simp
    have e3 : (!(inR frm 0 60)) = outB 0 60 frm := not_inR _ _ _
    have e4 : (!(inR to 0 60)) = outB 0 60 to := not_inR _ _ _
    have hT4 : [tool].any (outB 0 ((s.tools.length : Int) - 1)) = true → (s.tooledE tool shown [frm, to]).2 = 4 := fun h => by
      unfold Space.tooledE; simp only [hb, h]
    have hT7 : [tool].any (outB 0 ((s.tools.length : Int) - 1)) = false → ([shown].any (outB (-50) 250) || (outB 0 60 frm || outB 0 60 to)) = true → (s.tooledE tool shown [frm, to]).2 = 7 := fun h h' => by
      have : ([shown].any (outB (-50) 250) || [frm, to].any (outB 0 60)) = true := by rw [← h']; simp
      unfold Space.tooledE; simp only [hb, h, this]
    have hT0 : [tool].any (outB 0 ((s.tools.length : Int) - 1)) = false → ([shown].any (outB (-50) 250) || (outB 0 60 frm || outB 0 60 to)) = false → (s.tooledE tool shown [frm, to]).2 = 0 := fun h h' => by
      have : ([shown].any (outB (-50) 250) || [frm, to].any (outB 0 60)) = false := by rw [← h']; simp
      unfold Space.tooledE; simp only [hb, h, this]
    refine ⟨fun h2 => ?_, fun h2 => ?_⟩
    · have h2 := e1.symm.trans h2
      refine ⟨fun h => absurd h (by decide), fun _ => ?_⟩
      exact fin (hT4 h2).symm
    · have h2 := e1.symm.trans h2
      refine ⟨fun _ => ?_, fun h => absurd h (by decide)⟩
      refine ⟨_, rfl, _, den46 shown (-50) 250, ?_⟩
      refine ⟨fun h3 => ?_, fun h3 => ?_⟩
      · have h3 := e2.symm.trans h3
        exact fin (hT7 h2 (by rw [h3]; rfl)).symm
      · have h3 := e2.symm.trans h3
        refine ⟨_, rfl, _, den46 frm 0 60, ?_⟩
        refine ⟨fun h4 => ?_, fun h4 => ?_⟩
        · have h4 := e3.symm.trans h4
          exact fin (hT7 h2 (by rw [h3, h4]; rfl)).symm
        · have h4 := e3.symm.trans h4
          refine ⟨_, rfl, _, den46 to 0 60, ?_⟩
          refine ⟨fun h5 => ?_, fun h5 => ?_⟩
          · have h5 := e4.symm.trans h5
            exact fin (hT7 h2 (by rw [h3, h4, h5]; rfl)).symm
          · have h5 := e4.symm.trans h5
            exact fin (hT0 h2 (by rw [h3, h4, h5]; rfl)).symm
  · have h1 : (s.err0 == 0) = false := h1
    have h0 : s.err0 ≠ 0 := by simpa using h1
    have hb : (s.err0 != 0) = true := by simpa using h0
    have hT : (s.tooledE tool shown [frm, to]).2 = s.err0 := by unfold Space.tooledE; simp only [hb]
    refine ⟨fun h => absurd (h1.symm.trans h) (by decide), fun _ => ?_⟩
    exact fin hT.symm

theorem tooledE_twice (s : Space) (tool shown m : Int) : s.tooledE tool shown [m, m] = s.tooledE tool shown [m] := by
  unfold Space.tooledE
  have : [m, m].any (outB 0 60) = [m].any (outB 0 60) := by simp
  rw [this]

theorem den26 (s : Space) (tool shown minute : Int) : DN 26 [.agg s.enc, .int .i64 tool, .int .i64 shown, .int .i64 minute] (intsD (s.holds2 tool shown minute)) := by
  refine mk Try.func26 Try.call26 rfl rfl ?_
  have h65 := den65 s tool shown minute minute
  rw [tooledE_twice] at h65
  refine ⟨_, rfl, _, h65, ?_⟩
  rcases tooledE_inv s tool shown [minute] with ⟨e, he, ho⟩ | ⟨hv, e, he, ho⟩ | ⟨hv, ht, hs, hm, ho⟩
  · have he' : (e != 0) = true := by simpa using he
    rw [ho]
    refine ⟨fun _ => ?_, fun h1 => absurd (by simpa using h1) he⟩
    unfold Space.holds2; rw [ho]; simp only [he']; rfl
  · have he' : (e != 0) = true := by simpa using he
    rw [ho]
    refine ⟨fun _ => ?_, fun h1 => absurd (by simpa using h1) he⟩
    unfold Space.holds2; rw [ho]; simp only [he']; rfl
  · rw [ho]
    refine ⟨(fun h1 => nomatch h1), fun _ => ?_⟩
    refine ⟨_, rfl, _, den66 s hv tool shown minute ht hs (hm minute (by simp)), ?_⟩
    unfold Space.holds2; rw [ho]; rfl

end Go.Proofs.Gas

namespace Go.Proofs.Gas
open Go.V Go.Proofs

theorem need_mono_aux (H : Int → Int) (frm to : Int) : ∀ (n : Nat) (a b : Int), (to - a).toNat ≤ n → frm ≤ a → a ≤ b → b ≤ to → needN H frm to b ≤ needN H frm to a
  | n, a, b, hn, h1, h2, h3 => by
    have ha := need_best H frm to a (by omega)
    have hb := need_best H frm to b h3
    by_cases h62 : needN H frm to a < 62
    · obtain ⟨⟨m1, m2⟩, m3, m4⟩ := ha.is h62
      obtain ⟨m, hm⟩ : ∃ m, (needT H frm to a).2 = m := ⟨_, rfl⟩
      rw [hm] at m1 m2 m3 m4
      by_cases hbH : b ≤ H m
      · have := hb.min m m1 (by omega) hbH
        have e : (needT H frm to a).1 = needN H frm to a := rfl
        have e' : (needT H frm to b).1 = needN H frm to b := rfl
        omega
      · have m4' := m4
        unfold costF at m4'
        rw [if_pos (by omega)] at m4'
        have e : (needT H frm to a).1 = needN H frm to a := rfl
        cases n with
        | zero => omega
        | succ n =>
          have := need_mono_aux H frm to n (H m + 1) b (by omega) (by omega) (by omega) h3
          omega
    · have h4 := hb.le
      have e' : (needT H frm to b).1 = needN H frm to b := rfl
      omega
theorem need_mono (H : Int → Int) (frm to : Int) {a b : Int} (h1 : frm ≤ a) (h2 : a ≤ b) (h3 : b ≤ to) : needN H frm to b ≤ needN H frm to a := need_mono_aux H frm to _ a b (Nat.le_refl _) h1 h2 h3

/-- No reading up to the one that is picked covers what lies behind it. -/
theorem pick_after {H : Int → Int} {frm to a : Int} (h1 : frm ≤ a) (h2 : a ≤ to) (h62 : needN H frm to a < 62) (h3 : H (pickN H frm to a) + 1 ≤ to) :
    ∀ m, frm ≤ m → m ≤ pickN H frm to a → H m < H (pickN H frm to a) + 1 := by
  intro m hm1 hm2
  have ha := need_best H frm to a h2
  obtain ⟨⟨p1, p2⟩, p3, p4⟩ := ha.is h62
  have hfirst := ha.first h62
  obtain ⟨p, hp⟩ : ∃ p, pickN H frm to a = p := ⟨_, rfl⟩
  have hp' : (needT H frm to a).2 = p := hp
  rw [hp'] at p1 p2 p3 p4 hfirst
  rw [hp] at h3 hm2 ⊢
  refine Classical.byContradiction fun hge => ?_
  have hge : H p + 1 ≤ H m := by omega
  have hne : m ≠ p := fun e => by rw [e] at hge; omega
  have hlt := hfirst m hm1 (by omega) (by omega)
  have e : (needT H frm to a).1 = needN H frm to a := rfl
  unfold costF at p4 hlt
  rw [if_pos (by omega)] at p4
  by_cases hmt : H m < to
  · rw [if_pos hmt] at hlt
    have := need_mono H frm to (a := H p + 1) (b := H m + 1) (by omega) (by omega) (by omega)
    omega
  · rw [if_neg hmt] at hlt
    have hpos := (need_best H frm to (H p + 1) h3).pos
    have e2 : (needT H frm to (H p + 1)).1 = needN H frm to (H p + 1) := rfl
    omega

theorem bestC_none {H : Int → Int} {a to : Int} {nd : Int → Int} {frm : Int} : ∀ c : Nat, (∀ m, frm ≤ m → m < frm + c → H m < a) → bestC H a to nd frm c = (62, 0)
  | 0, _ => rfl
  | c + 1, h => by
    rw [bestC, stepM, if_pos (h _ (by omega) (by omega)), bestC_none c fun m h1 h2 => h m h1 (by omega)]
theorem bestC_skip {H : Int → Int} {a to : Int} {nd : Int → Int} {frm early : Int} (he : frm ≤ early) (h : ∀ m, frm ≤ m → m < early → H m < a) : ∀ c : Nat, bestC H a to nd frm ((early - frm).toNat + c) = bestC H a to nd early c
  | 0 => bestC_none _ fun m h1 h2 => h m h1 (by omega)
  | c + 1 => by
    have e : frm + (((early - frm).toNat + c : Nat) : Int) = early + c := by omega
    rw [← Nat.add_assoc, bestC, bestC, bestC_skip he h c, e]
theorem need_early {H : Int → Int} {frm to a early : Int} (h1 : frm ≤ early) (h2 : early ≤ a + 1) (h3 : a ≤ to) (h : ∀ m, frm ≤ m → m < early → H m < a) :
    bestC H a to (needN H frm to) early (a - early + 1).toNat = needT H frm to a := by
  rw [needT_eq H frm to a h3, ← bestC_skip h1 h]
  congr 1
  omega

theorem colN_range (H : Int → Int) (frm to : Int) (k j : Nat) : 0 ≤ colN H frm to k j ∧ colN H frm to k j ≤ 62 := by
  unfold colN
  by_cases h : to - k ≥ j ∨ to < j
  · rw [tab_out H frm to k j h]; decide
  · rw [tab_need H frm to k j (by omega) (by omega)]
    have := need_best H frm to j (by omega)
    have h1 := this.pos
    have h2 := this.le
    omega
theorem colN_need (H : Int → Int) (frm to : Int) (k : Nat) (j : Int) (h0 : 0 ≤ j) (h1 : to - k < j) (h2 : j ≤ to) : colN H frm to k j.toNat = needN H frm to j := by
  unfold colN
  rw [Int.toNat_of_nonneg h0, tab_need H frm to k j h1 h2]; rfl

def rowI (f : Nat → Int) : List (List D) := (List.range 62).map fun j => [.int .i64 (f j)]
theorem rowI_len (f : Nat → Int) : (rowI f).length = 62 := by simp [rowI]
theorem rowI_get (f : Nat → Int) {n : Nat} (h : n < 62) : (rowI f)[n]? = some [.int .i64 (f n)] := by
  unfold rowI
  rw [List.getElem?_map, List.getElem?_range h]; rfl
theorem rowI_set {f g : Nat → Int} {n : Nat} {v : Int} (h : ∀ j, j ≠ n → f j = g j) (hv : g n = v) : (rowI f).set n [.int .i64 v] = rowI g :=
  set_range (fun j _ hj => by rw [h j hj]) (by rw [hv])
theorem rowI_congr {f g : Nat → Int} (h : ∀ j, j < 62 → f j = g j) : rowI f = rowI g := by
  unfold rowI
  refine List.map_congr_left fun j hj => ?_
  rw [h j (List.mem_range.1 hj)]
theorem rowI_zero : rowI (fun _ => 0) = List.replicate 62 [.int .i64 0] := by
  unfold rowI
  rw [List.map_const', List.length_range]

end Go.Proofs.Gas

namespace Go.Proofs.Gas
open Go.V Go.Proofs

set_option maxHeartbeats 2000000 in
theorem den67 (s : Space) (hv : s.Valid) (tool shown frm to : Int) (ht : 0 ≤ tool ∧ tool < s.tools.length) (hs : -50 ≤ shown ∧ shown ≤ 250) (hf : 0 ≤ frm ∧ frm ≤ 60) (hto : 0 ≤ to ∧ to ≤ 60) (hft : frm ≤ to)
    (H : Int → Int) (hH : s.holdsE tool shown = H) (K : Nat) (hK : (K : Int) = to - frm + 1) :
    DN 67 [.agg s.enc, .int .i64 tool, .int .i64 shown, .int .i64 frm, .int .i64 to] (.list 1 (rowI (colN H frm to K))) := by
  refine mk Try.func67 Try.call67 rfl rfl ?_
  have hHb : ∀ m, 0 ≤ m → m ≤ 60 → -1 ≤ H m ∧ H m ≤ 60 := fun m h0 h1 => by
    rcases holdsE_le s tool shown m h1 with h | h
    · rw [hH] at h; exact h
    · omega
  have h66 : ∀ m, 0 ≤ m → m ≤ 60 → DN 66 [.agg s.enc, .int .i64 tool, .int .i64 shown, .int .i64 m] (.int .i64 (H m)) := fun m h0 h1 => by
    have := den66 s hv tool shown m ht hs ⟨h0, h1⟩
    rw [hH] at this
    exact this
  refine ⟨by decide, rfl, by decide, 62, rfl, rowI (fun _ => 0), rowI_zero.symm, ?_⟩
  refine ⟨[1, 2, 3, 4, 5, 11, 12], 2, [], fun σ => ∃ (k : Nat), (k : Int) ≤ to - frm + 1 ∧ ∃ a, a = to - k ∧
    σ = ⟨[(1, .int .i64 tool), (2, .int .i64 shown), (3, .int .i64 frm), (4, .int .i64 to), (5, .loc 0 0), (11, .sl 1 0 0 62), (12, .int .i64 a)],
      [.flat false s.enc, .rows false 0 1 (rowI (colN H frm to k))], .non⟩, fun σ => (slotI 12 σ + 1).toNat, rfl, ⟨rfl, rfl⟩, ⟨0, by omega, to, by omega, ?_⟩, ?_⟩
  · rw [rowI_congr (fun j _ => colN_zero H frm to j)]
    rfl
  rintro σ ⟨k, hk, a, haa, rfl⟩
  refine ⟨fun h3 => ?_, fun h3 => ?_⟩
  · have h3 : a ≥ frm := of_decide_eq_true h3
    obtain ⟨nd, hnd⟩ : ∃ nd : Int → Int, (fun j => ((tabL H frm to k).at (to - k + 1) j).1) = nd := ⟨_, rfl⟩
    have hndv : ∀ j, a < j → j ≤ to → 1 ≤ nd j ∧ nd j ≤ 62 := fun j h4 h5 => by
      have hb := need_best H frm to j h5
      rw [← hnd]
      show 1 ≤ ((tabL H frm to k).at (to - k + 1) j).1 ∧ ((tabL H frm to k).at (to - k + 1) j).1 ≤ 62
      rw [tab_need H frm to k j (by omega) h5]
      exact ⟨hb.pos, hb.le⟩
    have hcol : ∀ j : Int, 0 ≤ j → colN H frm to k j.toNat = nd j := fun j hj => by
      rw [← hnd]; unfold colN; rw [Int.toNat_of_nonneg hj]
    obtain ⟨b, hb⟩ : ∃ b : Nat → Int × Int, bestC H a to nd frm = b := ⟨_, rfl⟩
    have hb0 : b 0 = (62, 0) := by rw [← hb]; rfl
    refine ⟨by omega, by omega, a.toNat, by omega, ?_⟩
    refine ⟨_, rowI_get _ (by omega), Nat.le_refl 1, rowI (putC (colN H frm to k) a (b 0).1), ?_, ?_⟩
    · rw [hb0]
      exact rowI_set (fun j hj => by unfold putC; rw [if_neg (by omega)]) (by unfold putC; rw [if_pos (by omega)])
    refine ⟨[1, 2, 3, 4, 5, 11, 12, 13], 2, [], fun σ => ∃ (c : Nat), frm + c ≤ a + 1 ∧ ∃ m : Int, m = frm + c ∧
      σ = ⟨[(1, .int .i64 tool), (2, .int .i64 shown), (3, .int .i64 frm), (4, .int .i64 to), (5, .loc 0 0), (11, .sl 1 0 0 62), (12, .int .i64 a), (13, .int .i64 m)],
        [.flat false s.enc, .rows false 0 1 (rowI (putC (colN H frm to k) a (b c).1))], .non⟩, fun σ => (slotI 12 σ + 1 - slotI 13 σ).toNat, rfl, ⟨rfl, rfl⟩, ⟨0, by omega, frm, by omega, rfl⟩, ?_⟩
    rintro σ ⟨c, hc, _, rfl, rfl⟩
    refine ⟨fun h4 => ?_, fun h4 => ?_⟩
    · have h4 : frm + c ≤ a := of_decide_eq_true h4
      have hHm := hHb (frm + c) (by omega) (by omega)
      have hbs : b (c + 1) = if H (frm + c) < a then b c else if costF H to nd (frm + c) < (b c).1 then (costF H to nd (frm + c), frm + c) else b c := by rw [← hb]; rfl
      refine ⟨_, rfl, _, h66 (frm + c) (by omega) (by omega), ?_⟩
      refine ⟨fun h5 => ?_, fun h5 => ?_⟩
      · have h5 : ¬ H (frm + c) < a := by have : H (frm + c) ≥ a := of_decide_eq_true h5; omega
        refine ⟨fun h7 => ?_, fun h7 => ?_⟩
        · have h7 : H (frm + c) < to := of_decide_eq_true h7
          have hcost : costF H to nd (frm + c) = 1 + nd (H (frm + c) + 1) := by unfold costF; rw [if_pos h7]
          have hn := hndv (H (frm + c) + 1) (by omega) (by omega)
          refine ⟨H (frm + c) + 1, wrap64 (by omega) (by omega), ?_⟩
          refine ⟨by omega, by omega, (H (frm + c) + 1).toNat, by omega, ?_⟩
          have hld : (rowI (putC (colN H frm to k) a (b c).1))[(H (frm + c) + 1).toNat]? = some [.int .i64 (nd (H (frm + c) + 1))] := by
            rw [rowI_get _ (by omega)]; unfold putC; rw [if_neg (by omega), hcol _ (by omega)]
          refine ⟨_, hld, ?_⟩
          refine ⟨1 + nd (H (frm + c) + 1), wrap64 (by omega) (by omega), ?_⟩
          refine ⟨by omega, by omega, a.toNat, by omega, ?_⟩
          refine ⟨_, rowI_get _ (by omega), ?_⟩
          refine ⟨by omega, by omega, a.toNat, by omega, ?_⟩
          have hbv : putC (colN H frm to k) a (b c).1 a.toNat = (b c).1 := by unfold putC; rw [if_pos (by omega)]
          refine ⟨_, rowI_get _ (by omega), Nat.le_refl 1, rowI (putC (colN H frm to k) a (b (c + 1)).1), ?_, ?_⟩
          · have hb1 : (b (c + 1)).1 = min (b c).1 (1 + nd (H (frm + c) + 1)) := by
              rw [hbs, if_neg h5, hcost]
              by_cases h6 : 1 + nd (H (frm + c) + 1) < (b c).1
              · rw [if_pos h6]; simp only; omega
              · rw [if_neg h6]; omega
            have e : splice [D.int .i64 (putC (colN H frm to k) a (b c).1 a.toNat)] 0 [D.int .i64 (min (putC (colN H frm to k) a (b c).1 a.toNat) (1 + nd (H (frm + c) + 1)))] = [D.int .i64 (b (c + 1)).1] := by rw [hbv, hb1]; rfl
            rw [e]
            exact rowI_set (fun j hj => by unfold putC; rw [if_neg (by omega), if_neg (by omega)]) (by unfold putC; rw [if_pos (by omega)])
          refine ⟨frm + c + 1, wrap64 (by omega) (by omega), ?_⟩
          exact ⟨⟨rfl, rfl⟩, ⟨c + 1, by omega, frm + c + 1, by omega, rfl⟩, by show (a + 1 - (frm + c + 1)).toNat < (a + 1 - (frm + c)).toNat; omega⟩
        · have h7 : ¬ H (frm + c) < to := of_decide_eq_false h7
          have hcost : costF H to nd (frm + c) = 1 := by unfold costF; rw [if_neg h7]
          refine ⟨by omega, by omega, a.toNat, by omega, ?_⟩
          refine ⟨_, rowI_get _ (by omega), ?_⟩
          refine ⟨by omega, by omega, a.toNat, by omega, ?_⟩
          have hbv : putC (colN H frm to k) a (b c).1 a.toNat = (b c).1 := by unfold putC; rw [if_pos (by omega)]
          refine ⟨_, rowI_get _ (by omega), Nat.le_refl 1, rowI (putC (colN H frm to k) a (b (c + 1)).1), ?_, ?_⟩
          · have hb1 : (b (c + 1)).1 = min (b c).1 (1) := by
              rw [hbs, if_neg h5, hcost]
              by_cases h6 : 1 < (b c).1
              · rw [if_pos h6]; simp only; omega
              · rw [if_neg h6]; omega
            have e : splice [D.int .i64 (putC (colN H frm to k) a (b c).1 a.toNat)] 0 [D.int .i64 (min (putC (colN H frm to k) a (b c).1 a.toNat) (1))] = [D.int .i64 (b (c + 1)).1] := by rw [hbv, hb1]; rfl
            rw [e]
            exact rowI_set (fun j hj => by unfold putC; rw [if_neg (by omega), if_neg (by omega)]) (by unfold putC; rw [if_pos (by omega)])
          refine ⟨frm + c + 1, wrap64 (by omega) (by omega), ?_⟩
          exact ⟨⟨rfl, rfl⟩, ⟨c + 1, by omega, frm + c + 1, by omega, rfl⟩, by show (a + 1 - (frm + c + 1)).toNat < (a + 1 - (frm + c)).toNat; omega⟩
      · have h5 : H (frm + c) < a := by have : ¬ H (frm + c) ≥ a := of_decide_eq_false h5; omega
        have hb1 : b (c + 1) = b c := by rw [hbs, if_pos h5]
        refine ⟨frm + c + 1, wrap64 (by omega) (by omega), ?_⟩
        exact ⟨⟨rfl, rfl⟩, ⟨c + 1, by omega, frm + c + 1, by omega, by rw [hb1]; rfl⟩, by show (a + 1 - (frm + c + 1)).toNat < (a + 1 - (frm + c)).toNat; omega⟩
    · have h4 : ¬ frm + c ≤ a := of_decide_eq_false h4
      have hcc : c = (to - k - frm + 1).toNat := by omega
      have hbt : b c = needT H frm to (to - k) := by rw [needT_tab, hnd, ← haa, hb, hcc, haa]
      have e1 : rowI (putC (colN H frm to k) a (b c).1) = rowI (colN H frm to (k + 1)) := rowI_congr fun j _ => by rw [colN_succ, hbt, haa]
      refine ⟨a - 1, wrap64 (by omega) (by omega), ?_⟩
      refine ⟨⟨rfl, rfl⟩, ⟨k + 1, by omega, a - 1, by omega, ?_⟩, by show (a - 1 + 1).toNat < (a + 1).toNat; omega⟩
      rw [← e1]
      rfl
  · have h3 : ¬ a ≥ frm := of_decide_eq_false h3
    obtain rfl : k = K := by omega
    show reify [.flat false s.enc, .rows false 0 1 (rowI (colN H frm to k))] 8 (.sl 1 0 0 62) = _
    exact reify_sl rfl (by rw [rowI_len])

end Go.Proofs.Gas

namespace Go.Proofs.Gas
open Go.V Go.Proofs

theorem bestC_le (H : Int → Int) (a to : Int) (nd : Int → Int) (frm : Int) : ∀ c, (bestC H a to nd frm c).1 ≤ 62
  | 0 => Int.le_refl 62
  | c + 1 => by
    have ih := bestC_le H a to nd frm c
    rw [bestC, stepM]
    split
    · exact ih
    · split
      · simp only; omega
      · exact ih

set_option maxHeartbeats 4000000 in
theorem den28 (s : Space) (tool shown frm to : Int) : DN 28 [.agg s.enc, .int .i64 tool, .int .i64 shown, .int .i64 frm, .int .i64 to] (listD (s.fewestE tool shown frm to)) := by
  refine mkW Try.func28 Try.call28 rfl rfl ?_
  have h65 := den65 s tool shown frm to
  have early : ∀ e : Int, ∃ d0, some (D.tup [.list 0 [], .int .i64 e]) = some d0 ∧ Wk d0 (listD ([], e)) := fun e => ⟨_, rfl, .tcons (.nil _ _) (.refl _)⟩
  have bad : ∀ {o : Option Seen} {e : Int}, s.tooledE tool shown [frm, to] = (o, e) → e ≠ 0 → listD (s.fewestE tool shown frm to) = listD ([], e) := fun ho he => by rw [fewestE_bad ho he]
  by_cases h0 : (s.tooledE tool shown [frm, to]).2 = 0
  · rcases tooledE_inv s tool shown [frm, to] with ⟨e, he, ho⟩ | ⟨hv, e, he, ho⟩ | ⟨hv, ht, hs, hm, ho⟩
    · rw [ho] at h0; exact absurd h0 he
    · rw [ho] at h0; exact absurd h0 he
    rw [h0] at h65
    have hf := hm frm (by simp)
    have hto := hm to (by simp)
    refine ⟨_, rfl, _, h65, ?_⟩
    refine ⟨fun _ => ?_, fun h => nomatch h⟩
    refine ⟨fun h2 => ?_, fun h2 => ?_⟩
    · have h2 : decide (frm > to) = true := h2
      rw [fewestE_arg ho h2]
      exact ⟨fun _ => early 2, fun h => nomatch h⟩
    have h2 : decide (frm > to) = false := h2
    refine ⟨(fun h => nomatch h), fun _ => ?_⟩
    have hft : frm ≤ to := by have := of_decide_eq_false h2; omega
    obtain ⟨H, hH⟩ : ∃ H, s.holdsE tool shown = H := ⟨_, rfl⟩
    have hHb : ∀ m, 0 ≤ m → m ≤ 60 → -1 ≤ H m ∧ H m ≤ 60 := fun m h0 h1 => by
      rcases holdsE_le s tool shown m h1 with h | h
      · rw [hH] at h; exact h
      · omega
    have h66 : ∀ m, 0 ≤ m → m ≤ 60 → DN 66 [.agg s.enc, .int .i64 tool, .int .i64 shown, .int .i64 m] (.int .i64 (H m)) := fun m h0 h1 => by
      have := den66 s hv tool shown m ht hs ⟨h0, h1⟩
      rw [hH] at this
      exact this
    have hdown := fewestE_down (s := s) (tool := tool) (shown := shown) ho h2
    have hok := fewestE_ok (s := s) (tool := tool) (shown := shown) ho h2
    rw [hH] at hdown hok
    have hres62 : needN H frm to frm ≥ 62 → s.fewestE tool shown frm to = ([], 9) := fun h => hdown (decide_eq_true h)
    have hresok : ¬ needN H frm to frm ≥ 62 → s.fewestE tool shown frm to = (chainF H to (pickN H frm to) 62 frm, 0) := fun h => hok (decide_eq_false h)
    obtain ⟨K, hK⟩ : ∃ K : Nat, (K : Int) = to - frm + 1 := ⟨(to - frm + 1).toNat, by omega⟩
    refine ⟨_, rfl, _, den67 s hv tool shown frm to ht hs hf hto hft H hH K hK, ?_⟩
    obtain ⟨F, hF⟩ : ∃ F, colN H frm to K = F := ⟨_, rfl⟩
    have hFr : ∀ j, 0 ≤ F j ∧ F j ≤ 62 := fun j => by rw [← hF]; exact colN_range H frm to K j
    have hFn : ∀ j : Int, frm ≤ j → j ≤ to → F j.toNat = needN H frm to j := fun j h1 h2 => by rw [← hF]; exact colN_need H frm to K j (by omega) (by omega) h2
    rw [hF]
    refine ⟨[1, 2, 4, 5, 13, 14, 15, 16], 1, [(.slot 14, 1)], fun σ => ∃ (g : Nat) (at' erl : Int) (acc : List Int) (f : Nat), (frm ≤ erl ∧ erl ≤ at' ∧ at' ≤ 61) ∧ (to + 1 - at').toNat ≤ f ∧ (at' ≤ to → needN H frm to at' < 62 ∨ at' = frm) ∧ (at' ≠ frm → ¬ needN H frm to frm ≥ 62) ∧
        (at' ≤ to → ∀ m, frm ≤ m → m < erl → H m < at') ∧ (acc.length : Int) ≤ at' - frm ∧
        acc ++ chainF H to (pickN H frm to) f at' = chainF H to (pickN H frm to) 62 frm ∧
        σ = ⟨[(1, .int .i64 tool), (2, .int .i64 shown), (4, .int .i64 to), (5, .loc 0 0), (13, .list 1 (rowI F)), (14, .sl 1 g 0 (acc.map encI).length), (15, .int .i64 at'), (16, .int .i64 erl)],
          [.flat false s.enc, .rows false g 1 (acc.map encI)], .non⟩,
      fun σ => (62 - slotI 15 σ).toNat, rfl, ⟨rfl, rfl⟩, ⟨0, frm, frm, [], 62, by omega, by omega, fun _ => .inr rfl, fun h => absurd rfl h, fun _ m h1 h2 => by omega, by simp, rfl, rfl⟩, ?_⟩
    rintro σ ⟨g, at', erl, acc, f, hb0, hfu, hgood, hfrm62, hskip, hacc, hch, rfl⟩
    refine ⟨fun h3 => ?_, fun h3 => ?_⟩
    · have h3 : at' ≤ to := of_decide_eq_true h3
      have hskip := hskip h3
      have hgood := hgood h3
      obtain ⟨nd, hnd⟩ : ∃ nd, needN H frm to = nd := ⟨_, rfl⟩
      have hndr : ∀ j, frm ≤ j → j ≤ to → 1 ≤ nd j ∧ nd j ≤ 62 := fun j h1 h2 => by
        have hb := need_best H frm to j h2
        rw [← hnd]
        exact ⟨hb.pos, hb.le⟩
      obtain ⟨b, hb⟩ : ∃ b : Nat → Int × Int, bestC H at' to nd erl = b := ⟨_, rfl⟩
      have hbz : b 0 = (62, 0) := by rw [← hb]; rfl
      have hball : b (at' - erl + 1).toNat = needT H frm to at' := by
        rw [← hb, ← hnd]
        exact need_early (by omega) (by omega) h3 hskip
      refine ⟨[1, 2, 4, 5, 13, 14, 15, 17, 18, 19], 2, [], fun σ => ∃ (c : Nat) (bst m t0 : Int), erl + c ≤ at' + 1 ∧ t0 = erl + c ∧ bst = (b c).1 ∧ ((b c).1 < 62 → m = (b c).2) ∧ (¬ (b c).1 < 62 → m = -1) ∧
        σ = ⟨[(1, .int .i64 tool), (2, .int .i64 shown), (4, .int .i64 to), (5, .loc 0 0), (13, .list 1 (rowI F)), (14, .sl 1 g 0 (acc.map encI).length), (15, .int .i64 at'), (17, .int .i64 bst), (18, .int .i64 m), (19, .int .i64 t0)],
          [.flat false s.enc, .rows false g 1 (acc.map encI)], .non⟩, fun σ => (61 - slotI 19 σ).toNat, rfl, ⟨rfl, rfl⟩,
        ⟨0, 62, -1, erl, by omega, by omega, by rw [hbz], fun h => by rw [hbz] at h; exact absurd h (by decide), fun _ => rfl, rfl⟩, ?_⟩
      rintro σ ⟨c, bst, m, t0, hc, ht0, rfl, hm1, hm2, rfl⟩
      have hbl : (b c).1 ≤ 62 := by rw [← hb]; exact bestC_le H at' to nd erl c
      refine ⟨fun h4 => ?_, fun h4 => ?_⟩
      · have h4 : t0 ≤ at' := of_decide_eq_true h4
        have hHm := hHb t0 (by omega) (by omega)
        have hbs : b (c + 1) = if H t0 < at' then b c else if costF H to nd t0 < (b c).1 then (costF H to nd t0, t0) else b c := by rw [← hb, ht0]; rfl
        refine ⟨_, rfl, _, h66 t0 (by omega) (by omega), ?_⟩
        refine ⟨fun h5 => ?_, fun h5 => ?_⟩
        · have h5 : H t0 < to := of_decide_eq_true h5
          have hFF := hFr (H t0 + 1).toNat
          have hcs : H t0 ≥ at' → costF H to nd t0 = 1 + F (H t0 + 1).toNat := fun h6 => by
            unfold costF; rw [if_pos h5, ← hnd, hFn (H t0 + 1) (by omega) (by omega)]
          refine ⟨H t0 + 1, wrap64 (by omega) (by omega), ?_⟩
          have hmx : max 0 (H t0 + 1) = H t0 + 1 := by omega
          have hld : (rowI F)[(max 0 (H t0 + 1)).toNat]? = some [.int .i64 (F (H t0 + 1).toNat)] := by
            rw [hmx]; exact rowI_get F (by omega)
          refine ⟨by omega, _, hld, ?_⟩
          refine ⟨1 + F (H t0 + 1).toNat, wrap64 (by omega) (by omega), ?_⟩
          refine ⟨fun h6 => ?_, fun h6 => ?_⟩
          · have h6 : H t0 ≥ at' := of_decide_eq_true h6
            have hcost : costF H to nd t0 = 1 + F (H t0 + 1).toNat := hcs h6
            refine ⟨fun h7 => ?_, fun h7 => ?_⟩
            · have h7 : 1 + F (H t0 + 1).toNat < (b c).1 := of_decide_eq_true h7
              have hb1 : b (c + 1) = (1 + F (H t0 + 1).toNat, t0) := by rw [hbs, if_neg (by omega), hcost, if_pos h7]
              refine ⟨t0 + 1, wrap64 (by omega) (by omega), ?_⟩
              refine ⟨⟨rfl, rfl⟩, ⟨c + 1, 1 + F (H t0 + 1).toNat, t0, t0 + 1, by omega, by omega, by rw [hb1], fun _ => by rw [hb1], fun h => by rw [hb1] at h; simp only at h; omega, rfl⟩, by show (61 - (t0 + 1)).toNat < (61 - t0).toNat; omega⟩
            · have h7 : ¬ 1 + F (H t0 + 1).toNat < (b c).1 := of_decide_eq_false h7
              have hb1 : b (c + 1) = b c := by rw [hbs, if_neg (by omega), hcost, if_neg h7]
              refine ⟨t0 + 1, wrap64 (by omega) (by omega), ?_⟩
              exact ⟨⟨rfl, rfl⟩, ⟨c + 1, (b c).1, m, t0 + 1, by omega, by omega, by rw [hb1], fun h => by rw [hb1] at h ⊢; exact hm1 h, fun h => by rw [hb1] at h; exact hm2 h, rfl⟩, by show (61 - (t0 + 1)).toNat < (61 - t0).toNat; omega⟩
          · have h6 : ¬ H t0 ≥ at' := of_decide_eq_false h6
            have hb1 : b (c + 1) = b c := by rw [hbs, if_pos (by omega)]
            refine ⟨t0 + 1, wrap64 (by omega) (by omega), ?_⟩
            exact ⟨⟨rfl, rfl⟩, ⟨c + 1, (b c).1, m, t0 + 1, by omega, by omega, by rw [hb1], fun h => by rw [hb1] at h ⊢; exact hm1 h, fun h => by rw [hb1] at h; exact hm2 h, rfl⟩, by show (61 - (t0 + 1)).toNat < (61 - t0).toNat; omega⟩
        · have h5 : ¬ H t0 < to := of_decide_eq_false h5
          have hcs : H t0 ≥ at' → costF H to nd t0 = 1 := fun _ => by unfold costF; rw [if_neg h5]
          refine ⟨fun h6 => ?_, fun h6 => ?_⟩
          · have h6 : H t0 ≥ at' := of_decide_eq_true h6
            have hcost : costF H to nd t0 = 1 := hcs h6
            refine ⟨fun h7 => ?_, fun h7 => ?_⟩
            · have h7 : 1 < (b c).1 := of_decide_eq_true h7
              have hb1 : b (c + 1) = (1, t0) := by rw [hbs, if_neg (by omega), hcost, if_pos h7]
              refine ⟨t0 + 1, wrap64 (by omega) (by omega), ?_⟩
              refine ⟨⟨rfl, rfl⟩, ⟨c + 1, 1, t0, t0 + 1, by omega, by omega, by rw [hb1], fun _ => by rw [hb1], fun h => by rw [hb1] at h; simp only at h; omega, rfl⟩, by show (61 - (t0 + 1)).toNat < (61 - t0).toNat; omega⟩
            · have h7 : ¬ 1 < (b c).1 := of_decide_eq_false h7
              have hb1 : b (c + 1) = b c := by rw [hbs, if_neg (by omega), hcost, if_neg h7]
              refine ⟨t0 + 1, wrap64 (by omega) (by omega), ?_⟩
              exact ⟨⟨rfl, rfl⟩, ⟨c + 1, (b c).1, m, t0 + 1, by omega, by omega, by rw [hb1], fun h => by rw [hb1] at h ⊢; exact hm1 h, fun h => by rw [hb1] at h; exact hm2 h, rfl⟩, by show (61 - (t0 + 1)).toNat < (61 - t0).toNat; omega⟩
          · have h6 : ¬ H t0 ≥ at' := of_decide_eq_false h6
            have hb1 : b (c + 1) = b c := by rw [hbs, if_pos (by omega)]
            refine ⟨t0 + 1, wrap64 (by omega) (by omega), ?_⟩
            exact ⟨⟨rfl, rfl⟩, ⟨c + 1, (b c).1, m, t0 + 1, by omega, by omega, by rw [hb1], fun h => by rw [hb1] at h ⊢; exact hm1 h, fun h => by rw [hb1] at h; exact hm2 h, rfl⟩, by show (61 - (t0 + 1)).toNat < (61 - t0).toNat; omega⟩
      · have h4 : ¬ t0 ≤ at' := of_decide_eq_false h4
        have hcc : c = (at' - erl + 1).toNat := by omega
        have hbt : b c = needT H frm to at' := by rw [hcc]; exact hball
        rw [hbt] at hm1 hm2 ⊢
        have hbest := need_best H frm to at' h3
        have hN : (needT H frm to at').1 = needN H frm to at' := rfl
        by_cases h62 : (needT H frm to at').1 < 62
        · have hm := hm1 h62
          obtain ⟨⟨p1, p2⟩, p3, p4⟩ := hbest.is h62
          rw [← hm] at p1 p2 p3 p4
          have hHp := hHb m (by omega) (by omega)
          have hpk : pickN H frm to at' = m := hm.symm
          obtain ⟨f, rfl⟩ : ∃ f', f = f' + 1 := ⟨f - 1, by omega⟩
          rw [chainF, if_pos h3, hpk] at hch
          have hcat : acc.map encI ++ [[D.int .i64 m]] = (acc ++ [m]).map encI := by simp [encI]
          refine ⟨fun h5 => ?_, fun _ => ?_⟩
          · have h5 : m < 0 := of_decide_eq_true h5
            omega
          refine ⟨fun h5 => ?_, fun _ => ?_⟩
          · have h5 : (needT H frm to at').1 > 61 := of_decide_eq_true h5
            omega
          refine ⟨trivial, iff' (by rw [beq_self]; rfl) ⟨rfl, ?_, _, hcat, ?_⟩⟩
          · rw [List.length_map]; show (_ + 1) * 8 ≤ mostBytes; unfold mostBytes; omega
          refine ⟨_, rfl, _, h66 m (by omega) (by omega), ?_⟩
          refine ⟨H m + 1, wrap64 (by omega) (by omega), ?_⟩
          refine ⟨m + 1, wrap64 (by omega) (by omega), ?_⟩
          have hlt62 : ¬ needN H frm to frm ≥ 62 := by
            by_cases e : at' = frm
            · have h' : needN H frm to at' < 62 := by omega
              rw [e] at h'
              omega
            · exact hfrm62 e
          refine ⟨⟨rfl, rfl⟩, ⟨g + 1, H m + 1, m + 1, acc ++ [m], f, by omega, by omega, fun h6 => ?_, fun _ => hlt62, fun h6 => ?_, by simp; omega, ?_, rfl⟩, by show (62 - (H m + 1)).toNat < (62 - at').toNat; omega⟩
          · unfold costF at p4
            rw [if_pos (by omega)] at p4
            exact .inl (by omega)
          · intro m' h7 h8
            have := pick_after (H := H) (frm := frm) (to := to) (a := at') (by omega) h3 (by omega) (by rw [hpk]; exact h6) m' h7 (by rw [hpk]; omega)
            rw [hpk] at this
            exact this
          · rw [← hch]; simp
        · have hm := hm2 h62
          have hle := hbest.le
          have hf0 : at' = frm := by
            rcases hgood with h | h
            · omega
            · exact h
          have h62' : needN H frm to frm ≥ 62 := by
            have h' : needN H frm to at' ≥ 62 := by omega
            rw [hf0] at h'
            exact h'
          rw [hm]
          refine ⟨fun _ => ?_, fun h => absurd h (by decide)⟩
          rw [hres62 h62']
          exact early 9
    · have h3 : ¬ at' ≤ to := of_decide_eq_false h3
      have hend : chainF H to (pickN H frm to) f at' = [] := by
        cases f with
        | zero => rfl
        | succ f => rw [chainF, if_neg h3]
      rw [hend, List.append_nil] at hch
      refine ⟨_, reify_tup (mapO_cons (reify_sl rfl rfl) (mapO_cons rfl rfl)), ?_⟩
      rw [hresok (hfrm62 (by omega)), hch]
      exact .refl _
  · have hb : ((s.tooledE tool shown [frm, to]).2 == 0) = false := by simpa using h0
    have hb' : ((s.tooledE tool shown [frm, to]).2 != 0) = true := by simpa using h0
    rw [bad (o := (s.tooledE tool shown [frm, to]).1) (e := (s.tooledE tool shown [frm, to]).2) rfl h0]
    refine ⟨_, rfl, _, h65, ?_⟩
    refine ⟨fun h => absurd (hb.symm.trans h) (by decide), fun _ => ?_⟩
    exact ⟨fun _ => early _, fun h => absurd (hb'.symm.trans h) (by decide)⟩

end Go.Proofs.Gas
