/- Until when a reading holds, in the program; A truth with too much gas, in the program: the spans from which it comes; A truth with too much gas, in the program; The fewest readings: the plain law of the program's table; The fewest readings, in the program; The fewest readings, in the program: the walk. No condition. -/
import Derived.Test.YtekancfhpbbieaaPackGB

namespace Go.Proofs.Gas
open Go.V Go.Proofs

def Space.tooledE (s : Space) (tool shown : Int) (ms : List Int) : Option Seen × Int := match s.err0 != 0 with
  | true => (none, s.err0)
  | false => match [tool].any (outB 0 ((s.tools.length : Int) - 1)) with
    | true => (some [], 4)
    | false => match [shown].any (outB (-50) 250) || ms.any (outB 0 60) with
      | true => (some [], 7)
      | false => (some [], 0)

theorem openE_nil_bad {s : Space} (h : s.err0 ≠ 0) : s.openE [] 0 = (none, s.err0) := by
  have : (s.err0 != 0) = true := by simpa using h
  unfold Space.openE
  simp only [this]
theorem openE_nil {s : Space} (h : s.err0 = 0) : s.openE [] 0 = (some [], 0) := by
  have : (s.err0 != 0) = false := by simpa using h
  unfold Space.openE
  simp only [this]
  rfl

theorem den63 (s : Space) (tool shown : Int) (ms : List Int) (hl : ms.length < 1000) : DN 63 [.agg s.enc, .int .i64 tool, .int .i64 shown, .list 1 (ms.map encI)] (s.openD (s.tooledE tool shown ms)) := by
  refine mk Try.func63 Try.call63 rfl rfl ?_
  have h76 : DN 76 [.agg s.enc, .list 0 [], .int .i64 0] (s.openD (s.openE [] 0)) := (den76 s [] 0).args (.tcons (.refl _) (.tcons (.nil _ _) (.tcons (.refl _) .tnil)))
  have fin : ∀ {p q : Option Seen × Int}, p = q → some (s.openD p) = some (s.openD q) := fun h => by rw [h]
  by_cases h0 : s.err0 = 0
  · have hv := s.valid_iff.1 h0
    have h0' : (s.err0 != 0) = false := by simpa using h0
    rw [openE_nil h0] at h76
    refine ⟨_, rfl, _, h76, ?_⟩
    refine ⟨(fun h1 => nomatch h1), fun _ => ?_⟩
    have hlt : ((s.tools.map encT).length : Int) = s.tools.length := by simp
    refine ⟨(s.tools.length : Int) - 1, ?_, ?_⟩
    · show IntKind.i64.wrap (((s.tools.map encT).length : Int) - 1) = _
      have := hv.tlen
      rw [hlt, wrap64 (by omega) (by omega)]
    refine ⟨_, rfl, _, den41 [tool] 0 ((s.tools.length : Int) - 1) (by simp), ?_⟩
    refine ⟨fun h4 => ?_, fun h4 => ?_⟩
    · exact fin (p := (some [], 4)) (by unfold Space.tooledE; simp only [h0', h4])
    refine ⟨_, rfl, _, den41 [shown] (-50) 250 (by simp), ?_⟩
    refine ⟨fun h5 => ?_, fun h5 => ?_⟩
    · exact fin (p := (some [], 7)) (by unfold Space.tooledE; simp only [h0', h4, h5]; rfl)
    refine ⟨_, rfl, _, den41 ms 0 60 hl, ?_⟩
    refine ⟨fun h6 => ?_, fun h6 => ?_⟩
    · exact fin (p := (some [], 7)) (by unfold Space.tooledE; simp only [h0', h4, h5, h6]; rfl)
    · exact fin (p := (some [], 0)) (by unfold Space.tooledE; simp only [h0', h4, h5, h6]; rfl)
  · have h0' : (s.err0 != 0) = true := by simpa using h0
    rw [openE_nil_bad h0] at h76
    refine ⟨_, rfl, _, h76, ?_⟩
    refine ⟨fun _ => ?_, fun h1 => absurd (by simpa using h1) h0⟩
    exact fin (p := (none, s.err0)) (by unfold Space.tooledE; simp only [h0'])

def Space.level0 (s : Space) (tool shown : Int) : Int := min 200 (shown + s.err tool)
def Space.holdsE (s : Space) (tool shown minute : Int) : Int := match decide (s.level0 tool shown < 0) with
  | true => -1
  | false => untilL s.limit (s.follow [] (-1) (61 - minute).toNat minute ⟨s.level0 tool shown, s.level0 tool shown⟩) (-1)

theorem holdsE_neg {s : Space} {tool shown minute : Int} (h : s.level0 tool shown < 0) : s.holdsE tool shown minute = -1 := by
  unfold Space.holdsE
  simp only [decide_eq_true h]
theorem holdsE_pos {s : Space} {tool shown minute : Int} (h : ¬ s.level0 tool shown < 0) : s.holdsE tool shown minute = untilL s.limit (s.follow [] (-1) (61 - minute).toNat minute ⟨s.level0 tool shown, s.level0 tool shown⟩) (-1) := by
  unfold Space.holdsE
  simp only [decide_eq_false h]

theorem den64 (s : Space) (hv : s.Valid) (tool shown minute : Int) (ht : 0 ≤ tool ∧ tool < s.tools.length) (hs : -50 ≤ shown ∧ shown ≤ 250) (hmin : 0 ≤ minute ∧ minute ≤ 60) :
    DN 64 [.agg (s.encM []), .int .i64 tool, .int .i64 shown, .int .i64 minute] (.int .i64 (s.holdsE tool shown minute)) := by
  refine mk Try.func64 Try.call64 rfl rfl ?_
  obtain ⟨x, hx⟩ : ∃ x, s.tools[tool.toNat]? = some x := ⟨_, List.getElem?_eq_getElem (by omega)⟩
  have hxe : s.err tool = x.2 := by unfold Space.err; rw [hx]
  have hxr := hv.err tool
  rw [hxe] at hxr
  have hrow2 : (s.tools.map encT)[tool.toNat]? = some (encT x) := by rw [List.getElem?_map, hx]; rfl
  refine ⟨ht.1, _, hrow2, ?_⟩
  refine ⟨_, wrap64 (by omega) (by omega), ?_⟩
  have hl0 : s.level0 tool shown = min 200 (shown + x.2) := by rw [Space.level0, hxe]
  refine ⟨fun h1 => ?_, fun h1 => ?_⟩
  · have h1 : min 200 (shown + x.2) < 0 := of_decide_eq_true h1
    rw [← hl0] at h1
    rw [holdsE_neg h1]; rfl
  · have h1 : ¬ min 200 (shown + x.2) < 0 := of_decide_eq_false h1
    have h1' := h1
    rw [← hl0] at h1'
    rw [holdsE_pos h1', hl0]
    obtain ⟨a, ha⟩ : ∃ a, min 200 (shown + x.2) = a := ⟨_, rfl⟩
    rw [ha] at h1 ⊢
    have hsm : Sp.small ⟨a, a⟩ := ⟨⟨by simp only; omega, by simp only; omega⟩, by simp only; omega, by simp only; omega⟩
    obtain ⟨xs, hxs⟩ : ∃ xs, s.follow [] (-1) (61 - minute).toNat minute ⟨a, a⟩ = xs := ⟨_, rfl⟩
    have hit := it79 s [] hv.small nil_small minute (-1) ⟨a, a⟩ hsm (by omega)
    rw [hxs] at hit ⊢
    refine ⟨[], [.agg (s.encM []), .int .i64 minute, .agg (Sp.enc ⟨a, a⟩), .int .i64 (-1)], [], _, rfl, rfl, rfl, rfl, den51 s [] minute (-1) ⟨a, a⟩, ⟨_, _, _, rfl, rfl, rfl⟩, ?_⟩
    rintro _ _ _ ⟨rfl, rfl, rfl⟩
    refine ⟨rfl, 2, [.loc 1 0, .loc 3 0, .loc 2 0, .loc 0 0], bsF s [] minute (-1) ⟨a, a⟩, rfl, rfl, rfl, _, hit, [4, 8], 2, [],
      fun i bs y => y = .non ∧ ∃ (last : Int), untilL s.limit xs (-1) = untilL s.limit (xs.drop i) last ∧ bs = [.flat false (s.encM []), .flat false [.int .i64 last]], rfl, rfl, ⟨rfl, rfl⟩, ⟨rfl, -1, rfl, rfl⟩, ?_, ?_, ?_⟩
    · rintro i x bs y hx ⟨rfl, last, hu, rfl⟩
      rw [List.getElem?_map] at hx
      cases hf : xs[i]? with
      | none => rw [hf] at hx; cases hx
      | some z =>
        rw [hf] at hx
        have hx : encX z = x := by simpa using hx
        subst hx
        have hi := (List.getElem?_eq_some_iff.1 hf).1
        have hdrop : xs.drop i = z :: xs.drop (i + 1) := by
          rw [List.drop_eq_getElem_cons hi]
          rw [(List.getElem?_eq_some_iff.1 hf).2]
        rw [hdrop, untilL] at hu
        refine ⟨fun h2 => ?_, fun h2 => ?_⟩
        · have h2 : decide (z.2.hi > s.limit) = true := h2
          rw [h2] at hu
          show some (D.int .i64 last) = some _
          rw [hu]
        · have h2 : decide (z.2.hi > s.limit) = false := h2
          rw [h2] at hu
          exact ⟨rfl, rfl, z.1, hu, rfl⟩
    · intro x hx
      obtain ⟨z, _, rfl⟩ := List.mem_map.1 hx
      exact ⟨rfl, rfl⟩
    · rintro bs y ⟨rfl, last, hu, rfl⟩
      rw [List.length_map, List.drop_length] at hu
      show some (D.int .i64 last) = some _
      rw [hu]; rfl

def Space.holds2 (s : Space) (tool shown minute : Int) : Int × Int := match (s.tooledE tool shown [minute]).2 != 0 with
  | true => (0, (s.tooledE tool shown [minute]).2)
  | false => (s.holdsE tool shown minute, 0)

theorem tooledE_inv (s : Space) (tool shown : Int) (ms : List Int) :
    (∃ e, e ≠ 0 ∧ s.tooledE tool shown ms = (none, e)) ∨ (s.Valid ∧ ∃ e, e ≠ 0 ∧ s.tooledE tool shown ms = (some [], e)) ∨
    (s.Valid ∧ (0 ≤ tool ∧ tool < s.tools.length) ∧ (-50 ≤ shown ∧ shown ≤ 250) ∧ (∀ m ∈ ms, 0 ≤ m ∧ m ≤ 60) ∧ s.tooledE tool shown ms = (some [], 0)) := by
  unfold Space.tooledE
  cases h1 : s.err0 != 0 with
  | true => exact .inl ⟨s.err0, by simpa using h1, rfl⟩
  | false =>
    have hv : s.Valid := s.valid_iff.1 (by simpa using h1)
    cases h2 : [tool].any (outB 0 ((s.tools.length : Int) - 1)) with
    | true => exact .inr (.inl ⟨hv, 4, by decide, rfl⟩)
    | false =>
      have g2 : 0 ≤ tool ∧ tool < s.tools.length := by simp [outB] at h2; omega
      cases h3 : [shown].any (outB (-50) 250) || ms.any (outB 0 60) with
      | true => exact .inr (.inl ⟨hv, 7, by decide, rfl⟩)
      | false =>
        obtain ⟨h3, h4⟩ := Bool.or_eq_false_iff.1 h3
        refine .inr (.inr ⟨hv, g2, by simp [outB] at h3; omega, fun m hm => ?_, rfl⟩)
        have := List.any_eq_false.1 h4 m hm
        exact outB_false.1 (by simpa using this)

theorem den25 (s : Space) (tool shown minute : Int) : DN 25 [.agg s.enc, .int .i64 tool, .int .i64 shown, .int .i64 minute] (intsD (s.holds2 tool shown minute)) := by
  refine mk Try.func25 Try.call25 rfl rfl ?_
  have h63 := den63 s tool shown [minute] (by simp)
  rcases tooledE_inv s tool shown [minute] with ⟨e, he, ho⟩ | ⟨hv, e, he, ho⟩ | ⟨hv, ht, hs, hm, ho⟩
  · have he' : (e != 0) = true := by simpa using he
    rw [ho] at h63
    refine ⟨_, rfl, _, h63, ?_⟩
    refine ⟨fun _ => ?_, fun h1 => absurd (by simpa using h1) he⟩
    unfold Space.holds2; rw [ho]; simp only [he']; rfl
  · have he' : (e != 0) = true := by simpa using he
    rw [ho] at h63
    refine ⟨_, rfl, _, h63, ?_⟩
    refine ⟨fun _ => ?_, fun h1 => absurd (by simpa using h1) he⟩
    unfold Space.holds2; rw [ho]; simp only [he']; rfl
  · rw [ho] at h63
    refine ⟨_, rfl, _, h63, ?_⟩
    refine ⟨(fun h1 => nomatch h1), fun _ => ?_⟩
    refine ⟨_, rfl, _, den64 s hv tool shown minute ht hs (hm minute (by simp)), ?_⟩
    unfold Space.holds2; rw [ho]; rfl

end Go.Proofs.Gas

namespace Go.Proofs.Gas
open Go.V Go.Proofs

theorem mkW {f : FuncId} {fn : Func} (hf : Try.prog.funcs[f]? = some fn) (he : Enters Try.prog f) (hb : bodyOK fn = true) {args : List D} {d : D} (hn : Nat.ble args.length fn.ntmps = true) (h : BodyW Try.tt (CD Try.prog shG) (ItD Try.prog ishG) fn args d) : DN f args d :=
  den_ofW Try.tok Try.mixed hf he hb hn h

theorem both_small_r {a b : Sp} (hb : b.small) : (both a b).small := by
  unfold both
  split
  · exact ⟨by decide, by decide⟩
  · rename_i h
    obtain ⟨⟨b1, b2⟩, b3, b4⟩ := hb
    have : ¬ max a.lo b.lo > min a.hi b.hi := fun e => h (.inr (.inr e))
    exact ⟨⟨by simp only; omega, by simp only; omega⟩, by simp only; omega, by simp only; omega⟩

def Space.leadX (s : Space) (t : Int) (th : Sp) : Sp := ⟨if th.lo > 0 then th.lo - (s.riseAt t).hi else 0, if th.hi < 200 then th.hi - (s.riseAt t).lo else 200⟩
/-- From which levels those of a minute later come. -/
def Space.lead (s : Space) (m : Seen) (t : Int) (th : Sp) : Sp := both (s.leadX t th) (left m t)

theorem den54 (s : Space) (m : Seen) (hs : s.small) (t : Int) (th : Sp) (hth : th.small) : DN 54 [.int .i64 t, .agg th.enc, .ro (s.encM m)] (.agg (s.lead m t th).enc) := by
  refine mk Try.func54 Try.call54 rfl rfl ?_
  have hr := hs.riseAt t
  obtain ⟨⟨r1, r2⟩, r3, r4⟩ := hr
  obtain ⟨⟨t1, t2⟩, t3, t4⟩ := hth
  have fin : ∀ x : Sp, x = s.leadX t th → some (D.agg (both x (left m t)).enc) = some (D.agg (s.lead m t th).enc) := fun x h => by rw [h]; rfl
  refine ⟨_, rfl, _, den55 s m t hs.blows, ?_⟩
  refine ⟨fun h1 => ?_, fun h1 => ?_⟩
  · have h1 : th.lo > 0 := of_decide_eq_true h1
    refine ⟨_, wrap64 (by omega) (by omega), ?_⟩
    refine ⟨fun h2 => ?_, fun h2 => ?_⟩
    · have h2 : th.hi < 200 := of_decide_eq_true h2
      refine ⟨_, wrap64 (by omega) (by omega), ?_⟩
      refine Or.inl ⟨by kernel_rfl, ?_⟩
      refine ⟨_, rfl, _, den57 s m t, ?_⟩
      refine ⟨_, rfl, _, den56 ⟨th.lo - (s.riseAt t).hi, th.hi - (s.riseAt t).lo⟩ (left m t), ?_⟩
      exact fin _ (by rw [Space.leadX, if_pos h1, if_pos h2])
    · have h2 : ¬ th.hi < 200 := of_decide_eq_false h2
      refine Or.inl ⟨by kernel_rfl, ?_⟩
      refine ⟨_, rfl, _, den57 s m t, ?_⟩
      refine ⟨_, rfl, _, den56 ⟨th.lo - (s.riseAt t).hi, 200⟩ (left m t), ?_⟩
      exact fin _ (by rw [Space.leadX, if_pos h1, if_neg h2])
  · have h1 : ¬ th.lo > 0 := of_decide_eq_false h1
    refine ⟨fun h2 => ?_, fun h2 => ?_⟩
    · have h2 : th.hi < 200 := of_decide_eq_true h2
      refine ⟨_, wrap64 (by omega) (by omega), ?_⟩
      refine Or.inl ⟨by kernel_rfl, ?_⟩
      refine ⟨_, rfl, _, den57 s m t, ?_⟩
      refine ⟨_, rfl, _, den56 ⟨0, th.hi - (s.riseAt t).lo⟩ (left m t), ?_⟩
      exact fin _ (by rw [Space.leadX, if_neg h1, if_pos h2])
    · have h2 : ¬ th.hi < 200 := of_decide_eq_false h2
      refine Or.inl ⟨by kernel_rfl, ?_⟩
      refine ⟨_, rfl, _, den57 s m t, ?_⟩
      refine ⟨_, rfl, _, den56 ⟨0, 200⟩ (left m t), ?_⟩
      exact fin _ (by rw [Space.leadX, if_neg h1, if_neg h2])

/-- From which levels, so many minutes before the last one, there can be too much gas at it. -/
def Space.back (s : Space) (m : Seen) (k : Nat) : Nat → Sp
  | 0 => both (left m k) ⟨s.limit + 1, 200⟩
  | j + 1 => s.lead m ((k : Int) - (j + 1 : Nat)) (s.back m k j)

theorem back_small {s : Space} {m : Seen} (hm : m.small) (hl : 0 ≤ s.limit ∧ s.limit ≤ 200) (k : Nat) : ∀ j, (s.back m k j).small
  | 0 => both_small (hm k) ⟨⟨by simp only; omega, by simp only; omega⟩, by simp only; omega, by simp only; omega⟩
  | j + 1 => both_small_r (hm _)

theorem set_range {α : Type} {f g : Nat → α} {n i : Nat} {v : α} (h : ∀ j, j < n → j ≠ i → f j = g j) (hi : g i = v) : ((List.range n).map f).set i v = (List.range n).map g := by
  apply List.ext_getElem?
  intro j
  rw [List.getElem?_set]
  by_cases hj : j < n
  · by_cases hij : i = j
    · subst hij; simp [hj, hi]
    · rw [if_neg hij]
      simp [List.getElem?_range, hj, h j hj (Ne.symm hij)]
  · by_cases hij : i = j
    · subst hij; simp [hj]
    · rw [if_neg hij]; simp [hj]

end Go.Proofs.Gas

namespace Go.Proofs.Gas
open Go.V Go.Proofs

def Space.walkT (s : Space) : List Sp → Int → Int → List Int
  | [], _, _ => []
  | x :: r, t, lv => max lv x.lo :: s.walkT r (t + 1) (limited (max lv x.lo + (s.riseAt t).lo))
def Space.allB (s : Space) (m : Seen) (k : Nat) : List Sp := (List.range (k + 1)).map fun j => s.back m k (k - j)
def Space.refusalE (s : Space) (l : List Rd) (minute : Int) : List Int × Int := match (s.levelE l minute).2 != 0 with
  | true => ([], (s.levelE l minute).2)
  | false => match decide ((s.levelE l minute).1.hi ≤ s.limit) with
    | true => ([], 4)
    | false => (s.walkT (s.allB (s.seen l) minute.toNat) 0 s.start.lo, 0)
def listD (p : List Int × Int) : D := .tup [.list 1 (p.1.map encI), .int .i64 p.2]

theorem refusalE_bad {s : Space} {l : List Rd} {minute : Int} {v : Sp × Int} (hv : s.levelE l minute = v) (h : v.2 ≠ 0) : s.refusalE l minute = ([], v.2) := by
  have : (v.2 != 0) = true := by simpa using h
  unfold Space.refusalE
  rw [hv]
  simp only [this]
theorem refusalE_none {s : Space} {l : List Rd} {minute : Int} {v : Sp × Int} (hv : s.levelE l minute = v) (h : v.2 = 0) (h2 : decide (v.1.hi ≤ s.limit) = true) : s.refusalE l minute = ([], 4) := by
  have : (v.2 != 0) = false := by simpa using h
  unfold Space.refusalE
  rw [hv]
  simp only [this, h2]
theorem refusalE_ok {s : Space} {l : List Rd} {minute : Int} {v : Sp × Int} (hv : s.levelE l minute = v) (h : v.2 = 0) (h2 : decide (v.1.hi ≤ s.limit) = false) : s.refusalE l minute = (s.walkT (s.allB (s.seen l) minute.toNat) 0 s.start.lo, 0) := by
  have : (v.2 != 0) = false := by simpa using h
  unfold Space.refusalE
  rw [hv]
  simp only [this, h2]

/-- The slice of the spans, those of minutes behind t filled in. -/
def rowB (s : Space) (m : Seen) (k : Nat) (t : Int) (j : Nat) : List D := if t < j then (s.back m k (k - j)).enc else [.int .i64 0, .int .i64 0]

theorem rowB_all (s : Space) (m : Seen) (k : Nat) : (List.range (k + 1)).map (rowB s m k (-1)) = (s.allB m k).map Sp.enc := by
  unfold Space.allB
  rw [List.map_map]
  refine List.map_congr_left fun j hj => ?_
  unfold rowB
  rw [if_pos (by omega)]
  rfl

theorem rowAt {f : Nat → List D} {n i : Nat} (h : i < n) : ((List.range n).map f)[i]? = some (f i) := by simp [h]

theorem den22 (s : Space) (l : List Rd) (minute : Int) : DN 22 [.agg s.enc, .list 3 (l.map Rd.enc), .int .i64 minute] (listD (s.refusalE l minute)) := by
  refine mkW Try.func22 Try.call22 rfl rfl ?_
  refine ⟨_, rfl, _, den48 s l minute, ?_⟩
  obtain ⟨v, hvv⟩ : ∃ v, s.levelE l minute = v := ⟨_, rfl⟩
  have hbad : v.2 ≠ 0 → s.refusalE l minute = ([], v.2) := refusalE_bad hvv
  have early : ∀ e : Int, ∃ d0, some (D.tup [.list 0 [], .int .i64 e]) = some d0 ∧ Wk d0 (listD ([], e)) := fun e => ⟨_, rfl, .tcons (.nil _ _) (.refl _)⟩
  rcases openE_inv s l minute with ⟨e, he, ho⟩ | ⟨hv, e, he, ho⟩ | ⟨hv, hl, hrd, hmin, ho⟩
  · have he2 : v.2 ≠ 0 := by
      rw [levelE_bad ho he] at hvv
      rw [← hvv]; exact he
    rw [ho, hvv, hbad he2]
    exact ⟨fun h1 => early _, fun h1 => absurd (by simpa using h1) he2⟩
  · have he2 : v.2 ≠ 0 := by
      rw [levelE_bad ho he] at hvv
      rw [← hvv]; exact he
    rw [ho, hvv, hbad he2]
    exact ⟨fun h1 => early _, fun h1 => absurd (by simpa using h1) he2⟩
  rw [ho, hvv]
  refine ⟨fun h1 => ?_, fun h1 => ?_⟩
  · have he2 : v.2 ≠ 0 := by simpa using h1
    rw [hbad he2]
    exact early _
  have h1 : v.2 = 0 := by simpa using h1
  refine ⟨fun h2 => ?_, fun h2 => ?_⟩
  · have h2 : decide (v.1.hi ≤ s.limit) = true := h2
    rw [refusalE_none hvv h1 h2]
    exact early _
  have h2 : decide (v.1.hi ≤ s.limit) = false := h2
  rw [refusalE_ok hvv h1 h2]
  obtain ⟨m, hm0⟩ : ∃ m, s.seen l = m := ⟨_, rfl⟩
  have hm : m.small := by rw [← hm0]; exact reads_small hv l [] nil_small
  obtain ⟨k, rfl⟩ : ∃ k : Nat, minute = k := ⟨minute.toNat, by omega⟩
  rw [hm0, Int.toNat_natCast]
  have hlim := hv.limit
  refine ⟨(k : Int) + 1, wrap64 (by omega) (by omega), ?_⟩
  refine ⟨by omega, rfl, ?_, k + 1, by omega, (List.range (k + 1)).map (rowB s m k k), ?_, ?_⟩
  · show 16 * ((k : Int) + 1) ≤ mostBytes
    unfold mostBytes; omega
  · apply List.ext_getElem?
    intro j
    by_cases hj : j < k + 1
    · have : rowB s m k k j = [.int .i64 0, .int .i64 0] := by unfold rowB; rw [if_neg (by omega)]
      simp [hj, this]
    · simp [hj]
  refine Or.inl ⟨by kernel_rfl, ?_⟩
  refine ⟨_, rfl, _, den57 s m k, ?_⟩
  refine ⟨_, wrap64 (by omega) (by omega), ?_⟩
  refine ⟨_, rfl, _, den56 (left m k) ⟨s.limit + 1, 200⟩, ?_⟩
  refine ⟨by omega, by omega, k, by omega, ?_⟩
  refine ⟨rowB s m k k k, by simp, ?_, (List.range (k + 1)).map (rowB s m k ((k : Int) - 1)), ?_, ?_⟩
  · unfold rowB; rw [if_neg (by omega)]; exact Nat.le_refl 2
  · refine set_range (fun j hj hjk => ?_) ?_
    · unfold rowB; rw [if_neg (by omega), if_neg (by omega)]
    · unfold rowB; rw [if_pos (by omega), if_neg (by omega), Nat.sub_self]; rfl
  refine ⟨(k : Int) - 1, wrap64 (by omega) (by omega), ?_⟩
  refine ⟨[6, 8, 10, 11, 12], 4, [], fun σ => ∃ t : Int, (-1 ≤ t ∧ t < k) ∧ σ = ⟨[(6, .nils), (8, .loc 1 0), (10, .clo (.func 54) [] [.loc 1 0]), (11, .sl 3 0 0 (k + 1)), (12, .int .i64 t)],
    [.flat false s.enc, .flat false (s.encM m), .flat false v.1.enc, .rows false 0 2 ((List.range (k + 1)).map (rowB s m k t))], .non⟩, fun σ => (slotI 12 σ + 1).toNat, rfl, ⟨rfl, rfl⟩, ⟨(k : Int) - 1, by omega, rfl⟩, ?_⟩
  rintro σ ⟨t, ht, rfl⟩
  refine ⟨fun h3 => ?_, fun h3 => ?_⟩
  · have h3 : t ≥ 0 := of_decide_eq_true h3
    obtain ⟨j, rfl⟩ : ∃ j : Nat, t = j := ⟨t.toNat, by omega⟩
    have hbs := back_small hm hlim k (k - (j + 1)) (s := s)
    refine ⟨(j : Int) + 1, wrap64 (by omega) (by omega), ?_⟩
    refine ⟨by omega, by omega, j + 1, by omega, ?_⟩
    refine ⟨(s.back m k (k - (j + 1))).enc, ?_, ?_⟩
    · have : rowB s m k j (j + 1) = (s.back m k (k - (j + 1))).enc := by unfold rowB; rw [if_pos (by omega)]
      rw [← this]
      exact rowAt (by omega)
    refine ⟨_, rfl, _, den54 s m hv.small j (s.back m k (k - (j + 1))) hbs, ?_⟩
    refine ⟨by omega, by omega, j, by omega, ?_⟩
    refine ⟨rowB s m k j j, rowAt (by omega), ?_, (List.range (k + 1)).map (rowB s m k ((j : Int) - 1)), ?_, ?_⟩
    · unfold rowB; rw [if_neg (by omega)]; exact Nat.le_refl 2
    · refine set_range (fun i hi hij => ?_) ?_
      · unfold rowB
        by_cases h : j < i
        · rw [if_pos (by omega), if_pos (by omega)]
        · rw [if_neg (by omega), if_neg (by omega)]
      · have e1 : k - j = (k - (j + 1)) + 1 := by omega
        have e2 : ((k : Int) - ((k - (j + 1) + 1 : Nat) : Int)) = j := by omega
        have e3 : s.back m k (k - j) = s.lead m j (s.back m k (k - (j + 1))) := by
          rw [e1, Space.back, e2]
        unfold rowB; rw [if_pos (by omega), if_neg (by omega), e3]; rfl
    refine ⟨(j : Int) - 1, wrap64 (by omega) (by omega), ?_⟩
    exact ⟨⟨rfl, rfl⟩, ⟨(j : Int) - 1, by omega, rfl⟩, by show ((j : Int) - 1 + 1).toNat < ((j : Int) + 1).toNat; omega⟩
  have h3 : ¬ t ≥ 0 := of_decide_eq_false h3
  have ht1 : t = -1 := by omega
  subst ht1
  rw [rowB_all]
  obtain ⟨al, hal⟩ : ∃ al, s.allB m k = al := ⟨_, rfl⟩
  have hall : al.length = k + 1 := by rw [← hal, Space.allB]; simp
  have hals : ∀ x ∈ al, x.small := fun x hx => by
    rw [← hal, Space.allB] at hx
    obtain ⟨j, _, rfl⟩ := List.mem_map.1 hx
    exact back_small hm hlim k _
  rw [hal]
  have hst := hv.start
  refine ⟨[6, 8, 13, 72, 73, 74], 4, [(.slot 6, 1)], fun σ => ∃ (i g : Nat) (lv : Int) (acc : List Int), i ≤ k + 1 ∧ acc.length = i ∧ (-1000000 ≤ lv ∧ lv ≤ 1000000) ∧ acc ++ s.walkT (al.drop i) i lv = s.walkT al 0 s.start.lo ∧
    σ = ⟨[(6, .sl 4 g 0 (acc.map encI).length), (8, .loc 1 0), (13, .int .i64 lv), (72, .sl 3 0 0 (k + 1)), (73, .int .i64 ((k + 1 : Nat) : Int)), (74, .int .i64 i)],
      [.flat false s.enc, .flat false (s.encM m), .flat false v.1.enc, .rows false 0 2 (al.map Sp.enc), .rows false g 1 (acc.map encI)], .non⟩, fun σ => (1000 - slotI 74 σ).toNat, rfl, ⟨rfl, rfl⟩, ⟨0, 0, s.start.lo, [], Nat.zero_le _, rfl, by omega, rfl, rfl⟩, ?_⟩
  rintro σ ⟨i, g, lv, acc, hi, hacc, hlv, hw, rfl⟩
  refine ⟨fun h4 => ?_, fun h4 => ?_⟩
  · have h4 : (i : Int) < ((k + 1 : Nat) : Int) := of_decide_eq_true h4
    have hi' : i < al.length := by omega
    have hx := hals al[i] (List.getElem_mem hi')
    obtain ⟨⟨x1, x2⟩, _⟩ := hx
    rw [List.drop_eq_getElem_cons hi', Space.walkT] at hw
    refine ⟨by omega, by omega, i, by omega, ?_⟩
    refine ⟨al[i].enc, by simp [hi'], ?_⟩
    have hcat : acc.map encI ++ [[D.int .i64 (max lv al[i].lo)]] = (acc ++ [max lv al[i].lo]).map encI := by simp [encI]
    refine ⟨trivial, iff' (by rw [beq_self]; rfl) ⟨rfl, ?_, _, hcat, ?_⟩⟩
    · rw [List.length_map]; show (_ + 1) * 8 ≤ mostBytes; unfold mostBytes; omega
    refine ⟨_, rfl, _, den55 s m i hv.small.blows, ?_⟩
    have hr := hv.small.riseAt i
    refine ⟨_, wrapS (by omega) hr.1, ?_⟩
    refine ⟨_, rfl, _, den58 _, ?_⟩
    refine ⟨_, wrap64 (by omega) (by omega), ?_⟩
    refine ⟨⟨rfl, rfl⟩, ⟨i + 1, g + 1, limited (max lv al[i].lo + (s.riseAt i).lo), acc ++ [max lv al[i].lo], by omega, by simp [hacc], limited_small _, ?_, rfl⟩, by show (1000 - ((i : Int) + 1)).toNat < (1000 - (i : Int)).toNat; omega⟩
    rw [← hw]
    simp
  · have h4 : ¬ (i : Int) < ((k + 1 : Nat) : Int) := of_decide_eq_false h4
    rw [List.drop_of_length_le (by omega), Space.walkT, List.append_nil] at hw
    refine ⟨_, reify_tup (mapO_cons (reify_sl rfl rfl) (mapO_cons rfl rfl)), ?_⟩
    rw [hw]
    exact .refl _

end Go.Proofs.Gas

namespace Go.Proofs.Gas
open Go.V Go.Proofs

/-- Rows of a table from a minute on: how few readings are enough, and the first one. -/
abbrev Tab := List (Int × Int)
def Tab.at (tb : Tab) (base j : Int) : Int × Int := if base ≤ j then (match tb[(j - base).toNat]? with | some p => p | none => (0, 0)) else (0, 0)

/-- How many readings there are, the first one at m (holding until H m). -/
def costF (H : Int → Int) (to : Int) (nd : Int → Int) (m : Int) : Int := if H m < to then 1 + nd (H m + 1) else 1
def stepM (H : Int → Int) (a to : Int) (nd : Int → Int) (p : Int × Int) (m : Int) : Int × Int := if H m < a then p else if costF H to nd m < p.1 then (costF H to nd m, m) else p
def bestC (H : Int → Int) (a to : Int) (nd : Int → Int) (frm : Int) : Nat → Int × Int
  | 0 => (62, 0)
  | c + 1 => stepM H a to nd (bestC H a to nd frm c) (frm + c)
/-- The table of the last k minutes. -/
def tabL (H : Int → Int) (frm to : Int) : Nat → Tab
  | 0 => []
  | k + 1 => bestC H (to - k) to (fun j => ((tabL H frm to k).at (to - k + 1) j).1) frm (to - k - frm + 1).toNat :: tabL H frm to k
def chainF (H : Int → Int) (to : Int) (pk : Int → Int) : Nat → Int → List Int
  | 0, _ => []
  | f + 1, a => if a ≤ to then pk a :: chainF H to pk f (H (pk a) + 1) else []

theorem tabL_len (H : Int → Int) (frm to : Int) : ∀ k, (tabL H frm to k).length = k
  | 0 => rfl
  | k + 1 => by simp [tabL, tabL_len H frm to k]

theorem at_cons (p : Int × Int) (tb : Tab) (base j : Int) : Tab.at (p :: tb) base j = if j = base then p else tb.at (base + 1) j := by
  unfold Tab.at
  by_cases h1 : j = base
  · subst h1; simp
  · rw [if_neg h1]
    by_cases h2 : base ≤ j
    · rw [if_pos h2, if_pos (by omega)]
      have : (j - base).toNat = (j - (base + 1)).toNat + 1 := by omega
      rw [this, List.getElem?_cons_succ]
    · rw [if_neg h2, if_neg (by omega)]

theorem at_nil (base j : Int) : Tab.at [] base j = (0, 0) := by
  unfold Tab.at
  split <;> simp

/-- A later table holds what an earlier one does. -/
theorem tabL_at (H : Int → Int) (frm to : Int) (k i : Nat) (j : Int) (hj : to - k < j) : (tabL H frm to (k + i)).at (to - (k + i : Nat) + 1) j = (tabL H frm to k).at (to - k + 1) j := by
  induction i with
  | zero => rfl
  | succ i ih =>
    rw [← ih, show k + (i + 1) = (k + i) + 1 from rfl, tabL, at_cons, if_neg (by omega)]
    congr 1
    omega

/-- What the best of some first readings is. -/
structure Best (H : Int → Int) (a to : Int) (nd : Int → Int) (frm : Int) (c : Nat) (p : Int × Int) : Prop where
  le : p.1 ≤ 62
  pos : 1 ≤ p.1
  is : p.1 < 62 → (frm ≤ p.2 ∧ p.2 < frm + c) ∧ a ≤ H p.2 ∧ p.1 = costF H to nd p.2
  none : p.1 = 62 → p.2 = 0
  min : ∀ m, frm ≤ m → m < frm + c → a ≤ H m → p.1 ≤ costF H to nd m
  first : p.1 < 62 → ∀ m, frm ≤ m → m < p.2 → a ≤ H m → p.1 < costF H to nd m

theorem bestC_best {H : Int → Int} {a to : Int} {nd : Int → Int} {frm : Int} (hpos : ∀ m, 1 ≤ costF H to nd m) : ∀ c, Best H a to nd frm c (bestC H a to nd frm c)
  | 0 => by
    simp only [bestC]
    exact ⟨Int.le_refl _, (by decide), fun h => absurd h (by decide), fun _ => rfl, fun m h1 h2 => (by omega), fun h => absurd h (by decide)⟩
  | c + 1 => by
    obtain ⟨h1, h2, h3, h4, h5, h6⟩ := bestC_best (H := H) (a := a) (to := to) (nd := nd) (frm := frm) hpos c
    have hc : ((c + 1 : Nat) : Int) = c + 1 := by omega
    simp only [bestC, stepM]
    by_cases g1 : H (frm + c) < a
    · rw [if_pos g1]
      refine ⟨h1, h2, fun h => ⟨⟨(h3 h).1.1, by have := (h3 h).1.2; omega⟩, (h3 h).2⟩, h4, fun m k1 k2 k3 => ?_, h6⟩
      by_cases e : m = frm + c
      · rw [e] at k3; omega
      · exact h5 m k1 (by omega) k3
    · rw [if_neg g1]
      by_cases g2 : costF H to nd (frm + c) < (bestC H a to nd frm c).1
      · rw [if_pos g2]
        refine ⟨by omega, hpos _, fun _ => ⟨⟨by simp only; omega, by simp only; omega⟩, by simp only; omega, rfl⟩, fun h => by simp only at h; omega, fun m k1 k2 k3 => ?_, fun _ m k1 k2 k3 => ?_⟩
        · by_cases e : m = frm + c
          · rw [e]; exact Int.le_refl _
          · exact Int.le_trans (Int.le_of_lt g2) (h5 m k1 (by omega) k3)
        · simp only at k2
          exact Int.lt_of_lt_of_le g2 (h5 m k1 k2 k3)
      · rw [if_neg g2]
        refine ⟨h1, h2, fun h => ⟨⟨(h3 h).1.1, by have := (h3 h).1.2; omega⟩, (h3 h).2⟩, h4, fun m k1 k2 k3 => ?_, h6⟩
        by_cases e : m = frm + c
        · rw [e]; omega
        · exact h5 m k1 (by omega) k3

/-- How few readings are enough from a minute on, if it is not covered by earlier ones; and the first one. -/
def needT (H : Int → Int) (frm to a : Int) : Int × Int := (tabL H frm to (to - a + 1).toNat).at a a
def needN (H : Int → Int) (frm to a : Int) : Int := (needT H frm to a).1
def pickN (H : Int → Int) (frm to a : Int) : Int := (needT H frm to a).2

theorem tab_need (H : Int → Int) (frm to : Int) (k : Nat) (j : Int) (h1 : to - k < j) (h2 : j ≤ to) : (tabL H frm to k).at (to - k + 1) j = needT H frm to j := by
  unfold needT
  obtain ⟨i, hi⟩ : ∃ i, k = (to - j + 1).toNat + i := ⟨k - (to - j + 1).toNat, by omega⟩
  rw [hi, tabL_at H frm to _ i j (by omega)]
  congr 1
  omega
theorem tab_out (H : Int → Int) (frm to : Int) (k : Nat) (j : Int) (h : to - k ≥ j ∨ to < j) : (tabL H frm to k).at (to - k + 1) j = (0, 0) := by
  unfold Tab.at
  split
  · rw [List.getElem?_eq_none (by rw [tabL_len]; omega)]
  · rfl

theorem bestC_congr {H : Int → Int} {a to : Int} {nd nd' : Int → Int} {frm : Int} (h : ∀ m, a ≤ H m → costF H to nd m = costF H to nd' m) : ∀ c, bestC H a to nd frm c = bestC H a to nd' frm c
  | 0 => rfl
  | c + 1 => by
    simp only [bestC, stepM, bestC_congr h c]
    by_cases g : H (frm + c) < a
    · rw [if_pos g, if_pos g]
    · rw [if_neg g, if_neg g, h _ (by omega)]

theorem needT_tab (H : Int → Int) (frm to : Int) (k : Nat) : needT H frm to (to - k) = bestC H (to - k) to (fun j => ((tabL H frm to k).at (to - k + 1) j).1) frm (to - k - frm + 1).toNat := by
  have e : (to - (to - (k : Int)) + 1).toNat = k + 1 := by omega
  unfold needT
  rw [e, tabL, at_cons, if_pos rfl]

theorem needT_eq (H : Int → Int) (frm to a : Int) (ha : a ≤ to) : needT H frm to a = bestC H a to (needN H frm to) frm (a - frm + 1).toNat := by
  obtain ⟨k, hk⟩ : ∃ k : Nat, a = to - k := ⟨(to - a).toNat, by omega⟩
  subst hk
  have e : (to - (to - (k : Int)) + 1).toNat = k + 1 := by omega
  unfold needT
  rw [e, tabL, at_cons, if_pos rfl]
  refine bestC_congr (fun m hm => ?_) _
  unfold costF
  split
  · show 1 + ((tabL H frm to k).at (to - k + 1) (H m + 1)).1 = _
    rw [tab_need H frm to k (H m + 1) (by omega) (by omega)]; rfl
  · rfl

theorem need_pos_aux (H : Int → Int) (frm to : Int) : ∀ (n : Nat) (a : Int), (to - a).toNat ≤ n → a ≤ to → Best H a to (needN H frm to) frm (a - frm + 1).toNat (needT H frm to a)
  | n, a, hn, ha => by
    rw [needT_eq H frm to a ha]
    have key : ∀ m, a ≤ H m → H m < to → 1 ≤ needN H frm to (H m + 1) := fun m h1 h2 => by
      cases n with
      | zero => omega
      | succ n => exact (need_pos_aux H frm to n (H m + 1) (by omega) (by omega)).pos
    -- costs of readings that do not hold so long play no part
    let nd' : Int → Int := fun j => max 0 (needN H frm to j)
    have hc : ∀ m, a ≤ H m → costF H to (needN H frm to) m = costF H to nd' m := fun m hm => by
      unfold costF
      split
      · rename_i h
        have := key m hm h
        show 1 + needN H frm to (H m + 1) = 1 + max 0 (needN H frm to (H m + 1))
        omega
      · rfl
    have hb := bestC_best (H := H) (a := a) (to := to) (nd := nd') (frm := frm) (fun m => by
      unfold costF
      split
      · show 1 ≤ 1 + max 0 (needN H frm to (H m + 1)); omega
      · exact Int.le_refl 1) (a - frm + 1).toNat
    rw [bestC_congr hc]
    obtain ⟨h1, h2, h3, h4, h5, h6⟩ := hb
    exact ⟨h1, h2, fun h => ⟨(h3 h).1, (h3 h).2.1, by rw [hc _ (h3 h).2.1]; exact (h3 h).2.2⟩, h4, fun m k1 k2 k3 => by rw [hc m k3]; exact h5 m k1 k2 k3, fun h m k1 k2 k3 => by rw [hc m k3]; exact h6 h m k1 k2 k3⟩

theorem need_best (H : Int → Int) (frm to a : Int) (ha : a ≤ to) : Best H a to (needN H frm to) frm (a - frm + 1).toNat (needT H frm to a) := need_pos_aux H frm to _ a (Nat.le_refl _) ha

end Go.Proofs.Gas

namespace Go.Proofs.Gas
open Go.V Go.Proofs

theorem untilL_mem (lim : Int) : ∀ (xs : List (Int × Sp)) (last : Int), untilL lim xs last = last ∨ ∃ z ∈ xs, untilL lim xs last = z.1
  | [], last => .inl rfl
  | x :: r, last => by
    unfold untilL
    split
    · exact .inl rfl
    · rcases untilL_mem lim r x.1 with h | ⟨z, h1, h2⟩
      · exact .inr ⟨x, by simp, h⟩
      · exact .inr ⟨z, by simp [h1], h2⟩

theorem holdsE_le (s : Space) (tool shown m : Int) (hm : m ≤ 60) : -1 ≤ s.holdsE tool shown m ∧ s.holdsE tool shown m ≤ 60 ∨ m < 0 := by
  by_cases h0 : m < 0
  · exact .inr h0
  · refine .inl ?_
    by_cases hn : s.level0 tool shown < 0
    · rw [holdsE_neg hn]; omega
    · rw [holdsE_pos hn]
      rcases untilL_mem s.limit (s.follow [] (-1) (61 - m).toNat m ⟨s.level0 tool shown, s.level0 tool shown⟩) (-1) with h | ⟨z, h1, h2⟩
      · rw [h]; omega
      · rw [h2]
        obtain ⟨i, hi⟩ := List.mem_iff_getElem?.1 h1
        have h3 := follow_fst s [] (-1) _ _ _ i z hi
        have h4 := (List.getElem?_eq_some_iff.1 hi).1
        rw [follow_len] at h4
        omega

def rng (f : Nat → Int) : List D := (List.range 62).map fun j => .int .i64 (f j)
theorem rng_len (f : Nat → Int) : (rng f).length = 62 := by simp [rng]
theorem rng_get (f : Nat → Int) (n : Int) (h : 0 ≤ n ∧ n < 62) : (rng f)[n.toNat]? = some (.int .i64 (f n.toNat)) := by
  unfold rng
  rw [List.getElem?_map, List.getElem?_range (by omega)]; rfl
theorem rng_set {f g : Nat → Int} {n : Nat} {v : Int} (hn : n < 62) (h : ∀ j, j ≠ n → f j = g j) (hv : g n = v) : splice (rng f) n [.int .i64 v] = rng g := by
  have h1 : splice (rng f) n [.int .i64 v] = (rng f).set n (.int .i64 v) := by
    unfold splice
    rw [List.set_eq_take_append_cons_drop, if_pos (by rw [rng_len]; exact hn)]
    rfl
  rw [h1]
  unfold rng
  exact set_range (fun j _ hj => by rw [h j hj]) (by rw [hv])
theorem rng_congr {f g : Nat → Int} (h : ∀ j, j < 62 → f j = g j) : rng f = rng g := by
  unfold rng
  refine List.map_congr_left fun j hj => ?_
  rw [h j (List.mem_range.1 hj)]

def Space.fewestE (s : Space) (tool shown frm to : Int) : List Int × Int := match (s.tooledE tool shown [frm, to]).2 != 0 with
  | true => ([], (s.tooledE tool shown [frm, to]).2)
  | false => match decide (frm > to) with
    | true => ([], 2)
    | false => match decide (needN (s.holdsE tool shown) frm to frm ≥ 62) with
      | true => ([], 9)
      | false => (chainF (s.holdsE tool shown) to (pickN (s.holdsE tool shown) frm to) 62 frm, 0)

theorem fewestE_bad {s : Space} {tool shown frm to e : Int} {o : Option Seen} (ho : s.tooledE tool shown [frm, to] = (o, e)) (he : e ≠ 0) : s.fewestE tool shown frm to = ([], e) := by
  have : (e != 0) = true := by simpa using he
  unfold Space.fewestE
  rw [ho]
  simp only [this]
theorem fewestE_arg {s : Space} {tool shown frm to : Int} {o : Option Seen} (ho : s.tooledE tool shown [frm, to] = (o, 0)) (h : decide (frm > to) = true) : s.fewestE tool shown frm to = ([], 2) := by
  unfold Space.fewestE
  rw [ho]
  simp only [show ((0 : Int) != 0) = false from rfl, h]
theorem fewestE_down {s : Space} {tool shown frm to : Int} {o : Option Seen} (ho : s.tooledE tool shown [frm, to] = (o, 0)) (h : decide (frm > to) = false) (h2 : decide (needN (s.holdsE tool shown) frm to frm ≥ 62) = true) : s.fewestE tool shown frm to = ([], 9) := by
  unfold Space.fewestE
  rw [ho]
  simp only [show ((0 : Int) != 0) = false from rfl, h, h2]
theorem fewestE_ok {s : Space} {tool shown frm to : Int} {o : Option Seen} (ho : s.tooledE tool shown [frm, to] = (o, 0)) (h : decide (frm > to) = false) (h2 : decide (needN (s.holdsE tool shown) frm to frm ≥ 62) = false) : s.fewestE tool shown frm to = (chainF (s.holdsE tool shown) to (pickN (s.holdsE tool shown) frm to) 62 frm, 0) := by
  unfold Space.fewestE
  rw [ho]
  simp only [show ((0 : Int) != 0) = false from rfl, h, h2]

/-- The columns of the table of the last k minutes, with a row of its own at a minute. -/
def colN (H : Int → Int) (frm to : Int) (k : Nat) (j : Nat) : Int := ((tabL H frm to k).at (to - k + 1) j).1
def colP (H : Int → Int) (frm to : Int) (k : Nat) (j : Nat) : Int := ((tabL H frm to k).at (to - k + 1) j).2
def putC (f : Nat → Int) (a : Int) (v : Int) (j : Nat) : Int := if (j : Int) = a then v else f j

theorem at_succ (H : Int → Int) (frm to : Int) (k : Nat) (j : Int) : (tabL H frm to (k + 1)).at (to - (k + 1 : Nat) + 1) j = if j = to - k then needT H frm to (to - k) else (tabL H frm to k).at (to - k + 1) j := by
  by_cases h : j = to - k
  · rw [if_pos h, h, tab_need H frm to (k + 1) (to - k) (by omega) (by omega)]
  · rw [if_neg h, show (to - ((k + 1 : Nat) : Int) + 1) = to - k by omega, tabL, at_cons, if_neg h]
theorem colN_succ (H : Int → Int) (frm to : Int) (k : Nat) (j : Nat) : colN H frm to (k + 1) j = putC (colN H frm to k) (to - k) (needT H frm to (to - k)).1 j := by
  unfold colN putC
  rw [at_succ]
  split <;> rfl
theorem colP_succ (H : Int → Int) (frm to : Int) (k : Nat) (j : Nat) : colP H frm to (k + 1) j = putC (colP H frm to k) (to - k) (needT H frm to (to - k)).2 j := by
  unfold colP putC
  rw [at_succ]
  split <;> rfl
theorem colN_zero (H : Int → Int) (frm to : Int) (j : Nat) : colN H frm to 0 j = 0 := by unfold colN; rw [tabL, at_nil]
theorem colP_zero (H : Int → Int) (frm to : Int) (j : Nat) : colP H frm to 0 j = 0 := by unfold colP; rw [tabL, at_nil]
theorem rng0 : (List.replicate 62 (D.int .i64 0) : List D) = rng fun _ => 0 := rfl

end Go.Proofs.Gas

namespace Go.Proofs.Gas
open Go.V Go.Proofs

theorem den27 (s : Space) (tool shown frm to : Int) : DN 27 [.agg s.enc, .int .i64 tool, .int .i64 shown, .int .i64 frm, .int .i64 to] (listD (s.fewestE tool shown frm to)) := by
  refine mkW Try.func27 Try.call27 rfl rfl ?_
  have h63 := den63 s tool shown [frm, to] (by simp)
  have early : ∀ e : Int, ∃ d0, some (D.tup [.list 0 [], .int .i64 e]) = some d0 ∧ Wk d0 (listD ([], e)) := fun e => ⟨_, rfl, .tcons (.nil _ _) (.refl _)⟩
  rcases tooledE_inv s tool shown [frm, to] with ⟨e, he, ho⟩ | ⟨hv, e, he, ho⟩ | ⟨hv, ht, hs, hm, ho⟩
  · rw [ho] at h63
    rw [fewestE_bad ho he]
    refine ⟨_, rfl, _, h63, ?_⟩
    exact ⟨fun _ => early _, fun h1 => absurd (by simpa using h1) he⟩
  · rw [ho] at h63
    rw [fewestE_bad ho he]
    refine ⟨_, rfl, _, h63, ?_⟩
    exact ⟨fun _ => early _, fun h1 => absurd (by simpa using h1) he⟩
  rw [ho] at h63
  have hf := hm frm (by simp)
  have hto := hm to (by simp)
  refine ⟨_, rfl, _, h63, ?_⟩
  refine ⟨(fun h1 => nomatch h1), fun _ => ?_⟩
  refine ⟨fun h2 => ?_, fun h2 => ?_⟩
  · rw [fewestE_arg ho h2]; exact early _
  have h2 : decide (frm > to) = false := h2
  have hft : frm ≤ to := by have := of_decide_eq_false h2; omega
  obtain ⟨H, hH⟩ : ∃ H, s.holdsE tool shown = H := ⟨_, rfl⟩
  have hHb : ∀ m, 0 ≤ m → m ≤ 60 → -1 ≤ H m ∧ H m ≤ 60 := fun m h0 h1 => by
    rcases holdsE_le s tool shown m h1 with h | h
    · rw [hH] at h; exact h
    · omega
  have h64 : ∀ m, 0 ≤ m → m ≤ 60 → DN 64 [.agg (s.encM []), .int .i64 tool, .int .i64 shown, .int .i64 m] (.int .i64 (H m)) := fun m h0 h1 => by
    have := den64 s hv tool shown m ht hs ⟨h0, h1⟩
    rw [hH] at this
    exact this
  have hdown := fewestE_down (s := s) (tool := tool) (shown := shown) ho h2
  have hok := fewestE_ok (s := s) (tool := tool) (shown := shown) ho h2
  rw [hH] at hdown hok
  refine ⟨[1, 2, 3, 4, 10, 12, 13, 14, 15], 5, [], fun σ => ∃ (k : Nat), (k : Int) ≤ to - frm + 1 ∧
    σ = ⟨[(1, .int .i64 tool), (2, .int .i64 shown), (3, .int .i64 frm), (4, .int .i64 to), (10, .nils), (12, .loc 2 0), (13, .loc 3 0), (14, .loc 4 0), (15, .int .i64 (to - k))],
      [.flat false s.enc, .rows true 0 1 [[.int .i64 frm], [.int .i64 to]], .flat false (s.encM []), .flat false (rng (colN H frm to k)), .flat false (rng (colP H frm to k))], .non⟩, fun σ => (slotI 15 σ + 1).toNat, rfl, ⟨rfl, rfl⟩, ⟨0, by omega, ?_⟩, ?_⟩
  · rw [rng_congr (fun j _ => colN_zero H frm to j), rng_congr (fun j _ => colP_zero H frm to j), show to - ((0 : Nat) : Int) = to by omega]
    rfl
  rintro σ ⟨k, hk, rfl⟩
  obtain ⟨a, haa⟩ : ∃ a, to - (k : Int) = a := ⟨_, rfl⟩
  rw [haa]
  refine ⟨fun h3 => ?_, fun h3 => ?_⟩
  · have h3 : a ≥ frm := of_decide_eq_true h3
    obtain ⟨nd, hnd⟩ : ∃ nd : Int → Int, (fun j => ((tabL H frm to k).at (to - k + 1) j).1) = nd := ⟨_, rfl⟩
    have hndv : ∀ j, a < j → j ≤ to → 1 ≤ nd j ∧ nd j ≤ 62 := fun j h4 h5 => by
      have hb := need_best H frm to j h5
      rw [← hnd]
      show 1 ≤ ((tabL H frm to k).at (to - k + 1) j).1 ∧ ((tabL H frm to k).at (to - k + 1) j).1 ≤ 62
      rw [tab_need H frm to k j (by omega) h5]
      exact ⟨hb.pos, hb.le⟩
    have hcol : ∀ j : Int, 0 ≤ j → colN H frm to k j.toNat = nd j := fun j hj => by
      rw [← hnd]; unfold colN; rw [Int.toNat_of_nonneg hj]
    have hcolP : colP H frm to k a.toNat = 0 := by
      unfold colP
      rw [tab_out H frm to k _ (by omega)]
    obtain ⟨b, hb⟩ : ∃ b : Nat → Int × Int, bestC H a to nd frm = b := ⟨_, rfl⟩
    have hb0 : b 0 = (62, 0) := by rw [← hb]; rfl
    refine ⟨⟨by omega, by omega⟩, a.toNat, Nat.mul_one _, ?_⟩
    refine ⟨by rw [rng_len]; show 0 + a.toNat + 1 ≤ 62; omega, rng (putC (colN H frm to k) a (b 0).1), ?_, ?_⟩
    · rw [Nat.zero_add]
      exact rng_set (by omega) (fun j hj => by unfold putC; rw [if_neg (by omega)]) (by unfold putC; rw [if_pos (by omega), hb0])
    refine ⟨[1, 2, 3, 4, 10, 12, 13, 14, 15, 16], 5, [], fun σ => ∃ (c : Nat), frm + c ≤ a + 1 ∧ ∃ m : Int, m = frm + c ∧
      σ = ⟨[(1, .int .i64 tool), (2, .int .i64 shown), (3, .int .i64 frm), (4, .int .i64 to), (10, .nils), (12, .loc 2 0), (13, .loc 3 0), (14, .loc 4 0), (15, .int .i64 a), (16, .int .i64 m)],
        [.flat false s.enc, .rows true 0 1 [[.int .i64 frm], [.int .i64 to]], .flat false (s.encM []), .flat false (rng (putC (colN H frm to k) a (b c).1)), .flat false (rng (putC (colP H frm to k) a (b c).2))], .non⟩, fun σ => (slotI 15 σ + 1 - slotI 16 σ).toNat, rfl, ⟨rfl, rfl⟩, ⟨0, by omega, frm, by omega, ?_⟩, ?_⟩
    · have : rng (putC (colP H frm to k) a (b 0).2) = rng (colP H frm to k) := rng_congr fun j _ => by
        unfold putC
        split
        · have hj : j = a.toNat := by omega
          rw [hb0, hj, hcolP]
        · rfl
      rw [this]
      rfl
    rintro σ ⟨c, hc, _, rfl, rfl⟩
    refine ⟨fun h4 => ?_, fun h4 => ?_⟩
    · have h4 : frm + c ≤ a := of_decide_eq_true h4
      have hHm := hHb (frm + c) (by omega) (by omega)
      have hbs : b (c + 1) = if H (frm + c) < a then b c else if costF H to nd (frm + c) < (b c).1 then (costF H to nd (frm + c), frm + c) else b c := by rw [← hb]; rfl
      refine ⟨_, rfl, _, h64 (frm + c) (by omega) (by omega), ?_⟩
      refine ⟨fun h5 => ?_, fun h5 => ?_⟩
      · have h5 : H (frm + c) < a := of_decide_eq_true h5
        have hb1 : b (c + 1) = b c := by rw [hbs, if_pos h5]
        refine ⟨frm + c + 1, wrap64 (by omega) (by omega), ?_⟩
        exact ⟨⟨rfl, rfl⟩, ⟨c + 1, by omega, frm + c + 1, by omega, by rw [hb1]; rfl⟩, by show (a + 1 - (frm + c + 1)).toNat < (a + 1 - (frm + c)).toNat; omega⟩
      have h5 : ¬ H (frm + c) < a := of_decide_eq_false h5
      refine ⟨fun h7 => ?_, fun h7 => ?_⟩
      · have h7 : H (frm + c) < to := of_decide_eq_true h7
        have hcost : costF H to nd (frm + c) = 1 + nd (H (frm + c) + 1) := by unfold costF; rw [if_pos h7]
        have hn := hndv (H (frm + c) + 1) (by omega) (by omega)
        refine ⟨H (frm + c) + 1, wrap64 (by omega) (by omega), ?_⟩
        refine ⟨⟨by omega, by omega⟩, (H (frm + c) + 1).toNat, Nat.mul_one _, ?_⟩
        refine ⟨.int .i64 (nd (H (frm + c) + 1)), ?_, ?_⟩
        · rw [Nat.zero_add, rng_get _ (H (frm + c) + 1) (by omega)]; unfold putC; rw [if_neg (by omega), hcol _ (by omega)]
        refine ⟨1 + nd (H (frm + c) + 1), wrap64 (by omega) (by omega), ?_⟩
        refine ⟨⟨by omega, by omega⟩, a.toNat, Nat.mul_one _, ?_⟩
        refine ⟨.int .i64 (b c).1, by rw [Nat.zero_add, rng_get _ a (by omega)]; unfold putC; rw [if_pos (by omega)], ?_⟩
        refine ⟨fun h6 => ?_, fun h6 => ?_⟩
        · have h6 : 1 + nd (H (frm + c) + 1) < (b c).1 := of_decide_eq_true h6
          have hb1 : b (c + 1) = (1 + nd (H (frm + c) + 1), frm + c) := by rw [hbs, if_neg h5, hcost, if_pos h6]
          refine ⟨⟨by omega, by omega⟩, a.toNat, Nat.mul_one _, ?_⟩
          refine ⟨by rw [rng_len]; show 0 + a.toNat + 1 ≤ 62; omega, rng (putC (colN H frm to k) a (b (c + 1)).1), ?_, ?_⟩
          · rw [Nat.zero_add]
            exact rng_set (by omega) (fun j hj => by unfold putC; rw [if_neg (by omega), if_neg (by omega)]) (by unfold putC; rw [if_pos (by omega), hb1])
          refine ⟨⟨by omega, by omega⟩, a.toNat, Nat.mul_one _, ?_⟩
          refine ⟨by rw [rng_len]; show 0 + a.toNat + 1 ≤ 62; omega, rng (putC (colP H frm to k) a (b (c + 1)).2), ?_, ?_⟩
          · rw [Nat.zero_add]
            exact rng_set (by omega) (fun j hj => by unfold putC; rw [if_neg (by omega), if_neg (by omega)]) (by unfold putC; rw [if_pos (by omega), hb1])
          refine ⟨frm + c + 1, wrap64 (by omega) (by omega), ?_⟩
          exact ⟨⟨rfl, rfl⟩, ⟨c + 1, by omega, frm + c + 1, by omega, rfl⟩, by show (a + 1 - (frm + c + 1)).toNat < (a + 1 - (frm + c)).toNat; omega⟩
        · have h6 : ¬ 1 + nd (H (frm + c) + 1) < (b c).1 := of_decide_eq_false h6
          have hb1 : b (c + 1) = b c := by rw [hbs, if_neg h5, hcost, if_neg h6]
          refine ⟨frm + c + 1, wrap64 (by omega) (by omega), ?_⟩
          exact ⟨⟨rfl, rfl⟩, ⟨c + 1, by omega, frm + c + 1, by omega, by rw [hb1]; rfl⟩, by show (a + 1 - (frm + c + 1)).toNat < (a + 1 - (frm + c)).toNat; omega⟩
      · have h7 : ¬ H (frm + c) < to := of_decide_eq_false h7
        have hcost : costF H to nd (frm + c) = 1 := by unfold costF; rw [if_neg h7]
        refine ⟨⟨by omega, by omega⟩, a.toNat, Nat.mul_one _, ?_⟩
        refine ⟨.int .i64 (b c).1, by rw [Nat.zero_add, rng_get _ a (by omega)]; unfold putC; rw [if_pos (by omega)], ?_⟩
        refine ⟨fun h6 => ?_, fun h6 => ?_⟩
        · have h6 : 1 < (b c).1 := of_decide_eq_true h6
          have hb1 : b (c + 1) = (1, frm + c) := by rw [hbs, if_neg h5, hcost, if_pos h6]
          refine ⟨⟨by omega, by omega⟩, a.toNat, Nat.mul_one _, ?_⟩
          refine ⟨by rw [rng_len]; show 0 + a.toNat + 1 ≤ 62; omega, rng (putC (colN H frm to k) a (b (c + 1)).1), ?_, ?_⟩
          · rw [Nat.zero_add]
            exact rng_set (by omega) (fun j hj => by unfold putC; rw [if_neg (by omega), if_neg (by omega)]) (by unfold putC; rw [if_pos (by omega), hb1])
          refine ⟨⟨by omega, by omega⟩, a.toNat, Nat.mul_one _, ?_⟩
          refine ⟨by rw [rng_len]; show 0 + a.toNat + 1 ≤ 62; omega, rng (putC (colP H frm to k) a (b (c + 1)).2), ?_, ?_⟩
          · rw [Nat.zero_add]
            exact rng_set (by omega) (fun j hj => by unfold putC; rw [if_neg (by omega), if_neg (by omega)]) (by unfold putC; rw [if_pos (by omega), hb1])
          refine ⟨frm + c + 1, wrap64 (by omega) (by omega), ?_⟩
          exact ⟨⟨rfl, rfl⟩, ⟨c + 1, by omega, frm + c + 1, by omega, rfl⟩, by show (a + 1 - (frm + c + 1)).toNat < (a + 1 - (frm + c)).toNat; omega⟩
        · have h6 : ¬ 1 < (b c).1 := of_decide_eq_false h6
          have hb1 : b (c + 1) = b c := by rw [hbs, if_neg h5, hcost, if_neg h6]
          refine ⟨frm + c + 1, wrap64 (by omega) (by omega), ?_⟩
          exact ⟨⟨rfl, rfl⟩, ⟨c + 1, by omega, frm + c + 1, by omega, by rw [hb1]; rfl⟩, by show (a + 1 - (frm + c + 1)).toNat < (a + 1 - (frm + c)).toNat; omega⟩
    · have h4 : ¬ frm + c ≤ a := of_decide_eq_false h4
      have hcc : c = (to - k - frm + 1).toNat := by omega
      have hbt : b c = needT H frm to (to - k) := by rw [needT_tab, hnd, haa, hb, hcc, haa]
      have e1 : rng (putC (colN H frm to k) a (b c).1) = rng (colN H frm to (k + 1)) := rng_congr fun j _ => by rw [colN_succ, hbt, haa]
      have e2 : rng (putC (colP H frm to k) a (b c).2) = rng (colP H frm to (k + 1)) := rng_congr fun j _ => by rw [colP_succ, hbt, haa]
      refine ⟨a - 1, wrap64 (by omega) (by omega), ?_⟩
      refine ⟨⟨rfl, rfl⟩, ⟨k + 1, by omega, ?_⟩, by show (a - 1 + 1).toNat < (a + 1).toNat; omega⟩
      rw [← e1, ← e2, show to - ((k + 1 : Nat) : Int) = a - 1 by omega]
      rfl
  · have h3 : ¬ a ≥ frm := of_decide_eq_false h3
    have hN : ∀ j : Int, frm ≤ j → j ≤ to → colN H frm to k j.toNat = needN H frm to j := fun j h4 h5 => by
      unfold colN
      rw [Int.toNat_of_nonneg (by omega), tab_need H frm to k j (by omega) h5]; rfl
    have hP : ∀ j : Int, frm ≤ j → j ≤ to → colP H frm to k j.toNat = pickN H frm to j := fun j h4 h5 => by
      unfold colP
      rw [Int.toNat_of_nonneg (by omega), tab_need H frm to k j (by omega) h5]; rfl
    refine ⟨⟨by omega, by omega⟩, frm.toNat, Nat.mul_one _, ?_⟩
    refine ⟨.int .i64 (needN H frm to frm), by rw [Nat.zero_add, rng_get _ frm (by omega), hN frm (by omega) (by omega)], ?_⟩
    refine ⟨fun h4 => ?_, fun h4 => ?_⟩
    · have h4 : decide (needN H frm to frm ≥ 62) = true := h4
      rw [hdown h4]; exact early _
    have h4 : decide (needN H frm to frm ≥ 62) = false := h4
    rw [hok h4]
    have h4 := of_decide_eq_false h4
    obtain ⟨nd, hnd⟩ : ∃ nd, colN H frm to k = nd := ⟨_, rfl⟩
    obtain ⟨pk, hpk⟩ : ∃ pk, colP H frm to k = pk := ⟨_, rfl⟩
    rw [hnd, hpk]
    refine ⟨[1, 2, 4, 10, 12, 14, 19], 5, [(.slot 10, 1)], fun σ => ∃ (g : Nat) (t : Int) (acc : List Int) (f : Nat), (frm ≤ t ∧ t ≤ 61) ∧ (to + 1 - t).toNat ≤ f ∧ (t ≤ to → needN H frm to t < 62) ∧ (acc.length : Int) ≤ t - frm ∧
        acc ++ chainF H to (pickN H frm to) f t = chainF H to (pickN H frm to) 62 frm ∧
        σ = ⟨[(1, .int .i64 tool), (2, .int .i64 shown), (4, .int .i64 to), (10, .sl 5 g 0 (acc.map encI).length), (12, .loc 2 0), (14, .loc 4 0), (19, .int .i64 t)],
          [.flat false s.enc, .rows true 0 1 [[.int .i64 frm], [.int .i64 to]], .flat false (s.encM []), .flat false (rng nd), .flat false (rng pk), .rows false g 1 (acc.map encI)], .non⟩,
      fun σ => (62 - slotI 19 σ).toNat, rfl, ⟨rfl, rfl⟩, ⟨0, frm, [], 62, by omega, by omega, fun _ => by omega, by simp, rfl, rfl⟩, ?_⟩
    rintro σ ⟨g, t, acc, f, htb, hf, hgood, hacc, hch, rfl⟩
    refine ⟨fun h5 => ?_, fun h5 => ?_⟩
    · have h5 : t ≤ to := of_decide_eq_true h5
      obtain ⟨f, rfl⟩ : ∃ f', f = f' + 1 := ⟨f - 1, by omega⟩
      have hb := need_best H frm to t h5
      have hlt : (needT H frm to t).1 < 62 := hgood h5
      obtain ⟨⟨p1, p2⟩, p3, p4⟩ := hb.is hlt
      obtain ⟨p, hp⟩ : ∃ p, pickN H frm to t = p := ⟨_, rfl⟩
      have hp' : (needT H frm to t).2 = p := hp
      rw [hp'] at p1 p2 p3 p4
      have hHp := hHb p (by omega) (by omega)
      have hget : (rng pk)[t.toNat]? = some (.int .i64 p) := by rw [rng_get _ t (by omega), ← hpk, hP t (by omega) h5, hp]
      rw [chainF, if_pos h5, hp] at hch
      have hcat : acc.map encI ++ [[D.int .i64 p]] = (acc ++ [p]).map encI := by simp [encI]
      refine ⟨⟨by omega, by omega⟩, t.toNat, Nat.mul_one _, ?_⟩
      refine ⟨.int .i64 p, by rw [Nat.zero_add]; exact hget, ?_⟩
      refine ⟨trivial, iff' (by rw [beq_self]; rfl) ⟨rfl, ?_, _, hcat, ?_⟩⟩
      · rw [List.length_map]; show (_ + 1) * 8 ≤ mostBytes; unfold mostBytes; omega
      refine Or.inl ⟨by kernel_rfl, ?_⟩
      refine ⟨⟨by omega, by omega⟩, t.toNat, Nat.mul_one _, ?_⟩
      refine ⟨.int .i64 p, by rw [Nat.zero_add]; exact hget, ?_⟩
      refine ⟨_, rfl, _, h64 p (by omega) (by omega), ?_⟩
      refine ⟨H p + 1, wrap64 (by omega) (by omega), ?_⟩
      refine ⟨⟨rfl, rfl⟩, ⟨g + 1, H p + 1, acc ++ [p], f, by omega, by omega, fun h6 => ?_, by simp; omega, ?_, rfl⟩, by show (62 - (H p + 1)).toNat < (62 - t).toNat; omega⟩
      · unfold costF at p4
        rw [if_pos (by omega)] at p4
        have := hlt
        omega
      · rw [← hch]; simp
    · have h5 : ¬ t ≤ to := of_decide_eq_false h5
      have hend : chainF H to (pickN H frm to) f t = [] := by
        cases f with
        | zero => rfl
        | succ f => rw [chainF, if_neg h5]
      rw [hend, List.append_nil] at hch
      refine ⟨_, reify_tup (mapO_cons (reify_sl rfl rfl) (mapO_cons rfl rfl)), ?_⟩
      rw [hch]
      exact .refl _

end Go.Proofs.Gas
