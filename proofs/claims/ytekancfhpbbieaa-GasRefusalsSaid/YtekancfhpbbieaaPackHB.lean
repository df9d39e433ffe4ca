/- The spans behind a refusal: the plain law; Which levels a minute before lead to some, in the reference. No condition. -/
import Derived.Test.YtekancfhpbbieaaPackGT
import Derived.Test.YtekancfhpbbieaaPackGH

namespace Go.Proofs.Gas
open Go.V Go.Proofs

/-- From which levels there can be too much gas at the minute k. -/
def Space.bk (s : Space) (m : Seen) (k j : Nat) : Sp := s.back m k (k - j)

structure BkOK (s : Space) (m : Seen) (k : Nat) : Prop where
  rng : ∀ j, j ≤ k → 0 ≤ (s.bk m k j).lo ∧ (s.bk m k j).lo ≤ (s.bk m k j).hi ∧ (s.bk m k j).hi ≤ 200
  step : ∀ j, j + 1 ≤ k → limited (s.tw (s.bk m k) j + (s.riseAt j).lo) ≤ (s.bk m k (j + 1)).hi ∧ (s.bk m k (j + 1)).lo ≤ limited (s.tw (s.bk m k) j + (s.riseAt j).hi)
  mem : ∀ j, j ≤ k → inB (s.tw (s.bk m k) j) (s.bk m k j) = true

theorem refusal_more {s : Space} {l : List Rd} (h : s.good l) {k : Nat} (hk : k ≤ 60) (hne : ¬ s.lv (s.seen l) k = none') (hhi : (s.lv (s.seen l) k).hi > s.limit) :
    s.refusalE l k = ((List.range (k + 1)).map (s.tw (s.bk (s.seen l) k)), 0) ∧ BkOK s (s.seen l) k := by
  have hv := h.v
  have hm := seen_ok s l
  obtain ⟨m, hme⟩ : ∃ m, s.seen l = m := ⟨_, rfl⟩
  rw [hme] at hm hne hhi ⊢
  have hll := lv_lev hv m k
  have hin : inB (s.lv m k).hi (s.lv m k) = true := by
    rcases hll with h | h
    · exact absurd h hne
    · exact inB_iff.2 ⟨h.2.1, Int.le_refl _⟩
  have hmeet := back_meet hv hm hin hhi
  let B : Nat → Sp := s.bk m k
  have hB : ∀ j, j ≤ k → 0 ≤ (B j).lo ∧ (B j).lo ≤ (B j).hi ∧ (B j).hi ≤ 200 := fun j hj => by
    obtain ⟨n, _, hn⟩ := hmeet (k - j) (by omega)
    exact lev_of_mem (back_lev hm s hv.limit k (k - j)) hn
  have hB0 : s.start.lo ≤ (B 0).hi := by
    obtain ⟨n, h1, h2⟩ := hmeet k (Nat.le_refl k)
    rw [Nat.sub_self, Space.lv, mem_both, Bool.and_eq_true] at h1
    have h3 := inB_iff.1 h1.1
    have h4 := inB_iff.1 h2
    show s.start.lo ≤ (s.back m k (k - 0)).hi
    rw [Nat.sub_zero]
    omega
  have hstep : ∀ j n, j + 1 ≤ k → inB n (B j) = true → limited (n + (s.riseAt j).lo) ≤ (B (j + 1)).hi ∧ (B (j + 1)).lo ≤ limited (n + (s.riseAt j).hi) := fun j n hj hn => by
    have hn2 := inB_iff.1 hn
    have hr := hB j (by omega)
    have hn : inB n (s.back m k (k - j)) = true := hn
    have e0 : k - j = (k - (j + 1)) + 1 := by omega
    rw [e0, Space.back, Space.lead, mem_both, Bool.and_eq_true] at hn
    have e : ((k : Int) - ((k - (j + 1) + 1 : Nat) : Int)) = j := by omega
    rw [e] at hn
    exact (mem_lead (hB (j + 1) hj) (by omega)).1 hn.1
  have hP : ∀ j, j ≤ k → s.cw B j ≤ (B j).hi := by
    intro j
    induction j with
    | zero => intro _; exact hB0
    | succ j ih =>
      intro hj
      have h1 := ih (by omega)
      have h2 := hB j (by omega)
      exact (hstep j (s.tw B j) hj (inB_iff.2 ⟨by unfold Space.tw; omega, by unfold Space.tw; omega⟩)).1
  have hT : ∀ j, j ≤ k → inB (s.tw B j) (B j) = true := fun j hj => by
    have h1 := hP j hj
    have h2 := hB j hj
    exact inB_iff.2 ⟨by unfold Space.tw; omega, by unfold Space.tw; omega⟩
  refine ⟨?_, hB, fun j hj => hstep j _ hj (hT j (by omega)), hT⟩
  have hl := levelE_eq (minute := (k : Int)) (good_read' h) (by omega)
  rw [Int.toNat_natCast, hme, if_neg hne] at hl
  rw [refusalE_ok hl rfl (decide_eq_false (by simp only; omega)), hme, Int.toNat_natCast]
  congr 1
  have := walkT_tw s B (k + 1) 0
  unfold Space.allB
  simp only [Nat.zero_add] at this
  exact this

/-- A minute before, the levels from which one comes. -/
theorem lead_ex {s : Space} {t : Int} {th : Sp} (hth : 0 ≤ th.lo ∧ th.lo ≤ th.hi ∧ th.hi ≤ 200) (hr : (s.riseAt t).lo ≤ (s.riseAt t).hi) {n : Int} (hn : 0 ≤ n ∧ n ≤ 200) :
    inB n (s.leadX t th) = true ↔ ∃ b, (s.riseAt t).lo ≤ b ∧ b < (s.riseAt t).hi + 1 ∧ inB (limited (n + b)) th = true := by
  rw [mem_lead hth hn]
  constructor
  · rintro ⟨h1, h2⟩
    refine ⟨max (s.riseAt t).lo (min (s.riseAt t).hi (th.lo - n)), by omega, by omega, inB_iff.2 ⟨?_, ?_⟩⟩
    · unfold limited at *; omega
    · unfold limited at *; omega
  · rintro ⟨b, h1, h2, h3⟩
    have := inB_iff.1 h3
    unfold limited at *
    omega

theorem bk_lead (s : Space) (m : Seen) {k j : Nat} (hj : j + 1 ≤ k) : s.bk m k j = s.lead m j (s.bk m k (j + 1)) := by
  unfold Space.bk
  have e0 : k - j = (k - (j + 1)) + 1 := by omega
  rw [e0, Space.back]
  have e : ((k : Int) - ((k - (j + 1) + 1 : Nat) : Int)) = j := by omega
  rw [e]
theorem bk_last (s : Space) (m : Seen) (k : Nat) : s.bk m k k = both (left m k) ⟨s.limit + 1, 200⟩ := by
  unfold Space.bk
  rw [Nat.sub_self, Space.back]

end Go.Proofs.Gas

namespace Go.Proofs.Gas
open Go.V Go.Proofs

theorem rowW_set_same (f : Nat → Bool) {a b : Int} {n : Nat} (hn : n < 201) (h : ¬ (a ≤ (n : Int) ∧ (n : Int) ≤ b)) : (rowW f a b).set n [.ff] = rowW f a b := by
  unfold rowW
  exact set_range (fun j hj hjn => rfl) (if_neg h)

/-- What a cell says. -/
def cellB (d : D) (c : Bool) : Prop := (d = .ff ∧ c = false) ∨ (d = .tt ∧ c = true) ∨ d = .bool c

set_option maxHeartbeats 4000000 in
theorem den60 (s : Space) (l : List Rd) (h : s.good l) (th : Sp) (hth : 0 ≤ th.lo ∧ th.lo ≤ th.hi ∧ th.hi ≤ 200) (t : Int) (ht : 0 ≤ t ∧ t ≤ 60) :
    DN 60 [.agg s.enc, .list 3 (l.map Rd.enc), lvlD (memF th), .int .i64 t] (lvlD (memF (s.lead (s.seen l) t th))) := by
  refine mkW Try.func60 Try.call60 rfl rfl ?_
  have hr := riseAt_le h.v t
  obtain ⟨G, hG⟩ : ∃ G, memF (left (s.seen l) t) = G := ⟨_, rfl⟩
  obtain ⟨X, hX⟩ : ∃ X, s.leadX t th = X := ⟨_, rfl⟩
  have hex := fun (n : Int) (hn : 0 ≤ n ∧ n ≤ 200) => lead_ex (s := s) (t := t) hth hr.2.1 hn
  obtain ⟨r, hrr⟩ : ∃ r, s.riseAt t = r := ⟨_, rfl⟩
  have h61 := den61 s t (by have := h.v.blen; omega)
  rw [hX] at hex
  rw [hrr] at h61 hr hex
  have hXlo : 0 ≤ X.lo ∨ X.lo < 0 := by omega
  refine ⟨by decide, rfl, by decide, 201, rfl, rowW G X.lo (min X.hi (-1)), ?_, ?_⟩
  · have : ∀ j : Nat, j < 201 → (if X.lo ≤ (j : Int) ∧ (j : Int) ≤ min X.hi (-1) then [D.bool (G j)] else [D.ff]) = [D.ff] := fun j _ => if_neg (by omega)
    unfold rowW
    rw [List.map_congr_left fun j hj => this j (List.mem_range.1 hj), List.map_const', List.length_range]
  refine ⟨_, rfl, _, h61, ?_⟩
  refine ⟨[1, 2, 3, 4, 9, 10, 11], 3, [], fun σ => ∃ n : Nat, n ≤ 201 ∧
    σ = ⟨[(1, .list 3 (l.map Rd.enc)), (2, lvlD (memF th)), (3, .int .i64 t), (4, .loc 0 0), (9, .sl 1 0 0 201), (10, .loc 2 0), (11, .int .i64 n)],
      [.flat false s.enc, .rows false 0 1 (rowW G X.lo (min X.hi ((n : Int) - 1))), .flat false r.enc], .non⟩, fun σ => (1000 - slotI 11 σ).toNat, rfl, ⟨rfl, rfl⟩, ⟨0, Nat.zero_le _, rfl⟩, ?_⟩
  rintro σ ⟨n, hn, rfl⟩
  refine ⟨fun h1 => ?_, fun h1 => ?_⟩
  · have h1 : (n : Int) < 201 := of_decide_eq_true h1
    have hn' : n < 201 := by omega
    have hnr : 0 ≤ (n : Int) ∧ (n : Int) ≤ 200 := by omega
    obtain ⟨R, hR⟩ : ∃ R, rowW G X.lo (min X.hi ((n : Int) - 1)) = R := ⟨_, rfl⟩
    have hRl : R.length = 201 := by rw [← hR, rowW_len]
    have hR0 : R.set n [.ff] = R := by rw [← hR]; exact rowW_set_same G hn' (by omega)
    have hget : ∀ d, (R.set n [d])[n]? = some [d] := fun d => by rw [List.getElem?_set_self (by omega)]
    have hset : ∀ d e, (R.set n [d]).set n [e] = R.set n [e] := fun d e => by rw [List.set_set]
    rw [hR]
    refine ⟨[1, 2, 3, 4, 9, 10, 11, 12], 3, [], fun σ => ∃ (b : Int) (d : D) (c : Bool), (r.lo ≤ b ∧ b ≤ r.hi + 1) ∧ cellB d c ∧ (c = true ↔ ∃ b', r.lo ≤ b' ∧ b' < b ∧ inB (limited ((n : Int) + b')) th = true) ∧
      σ = ⟨[(1, .list 3 (l.map Rd.enc)), (2, lvlD (memF th)), (3, .int .i64 t), (4, .loc 0 0), (9, .sl 1 0 0 201), (10, .loc 2 0), (11, .int .i64 n), (12, .int .i64 b)],
        [.flat false s.enc, .rows false 0 1 (R.set n [d]), .flat false r.enc], .non⟩, fun σ => (1000 - slotI 12 σ).toNat, rfl, ⟨rfl, rfl⟩,
        ⟨r.lo, .ff, false, by omega, .inl ⟨rfl, rfl⟩, ⟨(fun h => nomatch h), fun ⟨b', h1, h2, _⟩ => by omega⟩, by rw [hR0]; rfl⟩, ?_⟩
    rintro σ ⟨b, d, c, hb, hdc, hc, rfl⟩
    refine ⟨fun h2 => ?_, fun h2 => ?_⟩
    · have h2 : b ≤ r.hi := of_decide_eq_true h2
      have hme : (1000 - (b + 1)).toNat < (1000 - b).toNat := by omega
      obtain ⟨k, hk⟩ : ∃ k : Nat, limited ((n : Int) + b) = k := ⟨(limited ((n : Int) + b)).toNat, by unfold limited; omega⟩
      have hkr : k ≤ 200 := by unfold limited at hk; omega
      have hup : (c = true ∨ memF th k = true) ↔ ∃ b', r.lo ≤ b' ∧ b' < b + 1 ∧ inB (limited ((n : Int) + b')) th = true := by
        rw [hc]
        constructor
        · rintro (⟨b', e1, e2, e3⟩ | e)
          · exact ⟨b', e1, by omega, e3⟩
          · exact ⟨b, hb.1, by omega, by rw [hk]; exact e⟩
        · rintro ⟨b', e1, e2, e3⟩
          by_cases hbb : b' = b
          · subst hbb; rw [hk] at e3; exact .inr e3
          · exact .inl ⟨b', e1, by omega, e3⟩
      have yes : c = true → (true = true ↔ ∃ b', r.lo ≤ b' ∧ b' < b + 1 ∧ inB (limited ((n : Int) + b')) th = true) := fun e => ⟨fun _ => hup.1 (.inl e), fun _ => rfl⟩
      have no : c = false → (memF th k = true ↔ ∃ b', r.lo ≤ b' ∧ b' < b + 1 ∧ inB (limited ((n : Int) + b')) th = true) := fun e => by
        rw [← hup, e]
        constructor
        · exact .inr
        · rintro (h | h)
          · cases h
          · exact h
      refine ⟨by omega, by omega, n, by omega, ?_⟩
      refine ⟨_, hget d, ?_⟩
      rcases hdc with ⟨rfl, hc0⟩ | ⟨rfl, hc0⟩ | rfl
      · refine ⟨(n : Int) + b, wrap64 (by omega) (by omega), ?_⟩
        refine ⟨_, rfl, _, den62 _, ?_⟩
        rw [hk]
        refine ⟨by omega, _, rowF_get (memF th) (by omega), ?_⟩
        refine ⟨by omega, by omega, n, by omega, ?_⟩
        refine ⟨_, hget _, Nat.le_refl 1, _, hset _ _, ?_⟩
        refine ⟨b + 1, wrap64 (by omega) (by omega), ?_⟩
        exact ⟨⟨rfl, rfl⟩, ⟨b + 1, .bool (memF th k), memF th k, by omega, .inr (.inr rfl), no hc0, rfl⟩, hme⟩
      · refine ⟨by omega, by omega, n, by omega, ?_⟩
        refine ⟨_, hget _, Nat.le_refl 1, _, hset _ _, ?_⟩
        refine ⟨b + 1, wrap64 (by omega) (by omega), ?_⟩
        exact ⟨⟨rfl, rfl⟩, ⟨b + 1, .tt, true, by omega, .inr (.inl ⟨rfl, rfl⟩), yes hc0, rfl⟩, hme⟩
      · refine ⟨fun hc0 => ?_, fun hc0 => ?_⟩
        · refine ⟨by omega, by omega, n, by omega, ?_⟩
          refine ⟨_, hget _, Nat.le_refl 1, _, hset _ _, ?_⟩
          refine ⟨b + 1, wrap64 (by omega) (by omega), ?_⟩
          exact ⟨⟨rfl, rfl⟩, ⟨b + 1, .tt, true, by omega, .inr (.inl ⟨rfl, rfl⟩), yes hc0, rfl⟩, hme⟩
        · refine ⟨(n : Int) + b, wrap64 (by omega) (by omega), ?_⟩
          refine ⟨_, rfl, _, den62 _, ?_⟩
          rw [hk]
          refine ⟨by omega, _, rowF_get (memF th) (by omega), ?_⟩
          refine ⟨by omega, by omega, n, by omega, ?_⟩
          refine ⟨_, hget _, Nat.le_refl 1, _, hset _ _, ?_⟩
          refine ⟨b + 1, wrap64 (by omega) (by omega), ?_⟩
          exact ⟨⟨rfl, rfl⟩, ⟨b + 1, .bool (memF th k), memF th k, by omega, .inr (.inr rfl), no hc0, rfl⟩, hme⟩
    · have h2 : ¬ b ≤ r.hi := of_decide_eq_false h2
      have hbe : b = r.hi + 1 := by omega
      subst hbe
      rw [← hex n hnr] at hc
      have hme : (1000 - ((n : Int) + 1)).toNat < (1000 - (n : Int)).toNat := by omega
      have yes : c = true → R.set n [.bool (inB n (left (s.seen l) t))] = rowW G X.lo (min X.hi (((n + 1 : Nat) : Int) - 1)) := fun e => by
        have hin := inB_iff.1 (hc.1 e)
        have e2 : inB (n : Int) (left (s.seen l) t) = G n := by rw [← hG]; rfl
        rw [← hR, e2]
        exact rowW_set G hn' hin.1 (by omega) (by omega)
      have no : c = false → R.set n [.ff] = rowW G X.lo (min X.hi (((n + 1 : Nat) : Int) - 1)) := fun e => by
        rw [hR0, ← hR]
        have hin : ¬ (X.lo ≤ (n : Int) ∧ (n : Int) ≤ X.hi) := fun hh => by
          rw [hc.2 (inB_iff.2 hh)] at e; cases e
        unfold rowW
        refine List.map_congr_left fun j hj => ?_
        by_cases hj2 : X.lo ≤ (j : Int) ∧ (j : Int) ≤ min X.hi ((n : Int) - 1)
        · rw [if_pos hj2, if_pos (by omega)]
        · rw [if_neg hj2, if_neg (by omega)]
      refine ⟨by omega, by omega, n, by omega, ?_⟩
      refine ⟨_, hget d, ?_⟩
      rcases hdc with ⟨rfl, hc0⟩ | ⟨rfl, hc0⟩ | rfl
      · refine ⟨by omega, by omega, n, by omega, ?_⟩
        refine ⟨_, hget _, Nat.le_refl 1, _, (hset _ _).trans (no hc0), ?_⟩
        refine ⟨(n : Int) + 1, wrap64 (by omega) (by omega), ?_⟩
        exact ⟨⟨rfl, rfl⟩, ⟨n + 1, by omega, rfl⟩, hme⟩
      · refine ⟨_, rfl, _, good_den59 h t n hnr, ?_⟩
        refine ⟨by omega, by omega, n, by omega, ?_⟩
        refine ⟨_, hget _, Nat.le_refl 1, _, (hset _ _).trans (yes hc0), ?_⟩
        refine ⟨(n : Int) + 1, wrap64 (by omega) (by omega), ?_⟩
        exact ⟨⟨rfl, rfl⟩, ⟨n + 1, by omega, rfl⟩, hme⟩
      · refine ⟨fun hc0 => ?_, fun hc0 => ?_⟩
        · refine ⟨_, rfl, _, good_den59 h t n hnr, ?_⟩
          refine ⟨by omega, by omega, n, by omega, ?_⟩
          refine ⟨_, hget _, Nat.le_refl 1, _, (hset _ _).trans (yes hc0), ?_⟩
          refine ⟨(n : Int) + 1, wrap64 (by omega) (by omega), ?_⟩
          exact ⟨⟨rfl, rfl⟩, ⟨n + 1, by omega, rfl⟩, hme⟩
        · refine ⟨by omega, by omega, n, by omega, ?_⟩
          refine ⟨_, hget _, Nat.le_refl 1, _, (hset _ _).trans (no hc0), ?_⟩
          refine ⟨(n : Int) + 1, wrap64 (by omega) (by omega), ?_⟩
          exact ⟨⟨rfl, rfl⟩, ⟨n + 1, by omega, rfl⟩, hme⟩
  · have h1 : ¬ (n : Int) < 201 := of_decide_eq_false h1
    have hn2 : n = 201 := by omega
    refine ⟨.list 1 (rowW G X.lo (min X.hi ((n : Int) - 1))), (show reify [.flat false s.enc, .rows false 0 1 (rowW G X.lo (min X.hi ((n : Int) - 1))), .flat false r.enc] 8 (.sl 1 0 0 201) = _ from reify_sl rfl (by rw [rowW_len])), ?_⟩
    refine Wk_rows fun j hj => ?_
    have e : inB (j : Int) (s.leadX t th) = decide (X.lo ≤ (j : Int) ∧ (j : Int) ≤ min X.hi ((n : Int) - 1)) := by
      rw [hX, Bool.eq_iff_iff, inB_iff, decide_eq_true_eq]
      omega
    rw [← hG]
    unfold memF Space.lead
    rw [mem_both, e]

end Go.Proofs.Gas
