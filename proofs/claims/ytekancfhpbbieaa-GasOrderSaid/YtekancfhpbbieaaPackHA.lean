/- Readings in another order: the plain law; In any order, and told twice, readings lead to the same. No condition. -/
import Derived.Test.YtekancfhpbbieaaPackGW
import Derived.Test.YtekancfhpbbieaaPackGC
import Derived.Test.YtekancfhpbbieaaPackGD
import Derived.Test.YtekancfhpbbieaaPackGL

namespace Go.Proofs.Gas
open Go.V Go.Proofs

theorem same_agrees {s : Space} {l l' : List Rd} (h : ∀ r, r ∈ l ↔ r ∈ l') (t n : Int) : s.agrees l t n = s.agrees l' t n := by
  unfold Space.agrees
  rw [Bool.eq_iff_iff, List.all_eq_true, List.all_eq_true]
  exact ⟨fun h1 r hr => h1 r ((h r).2 hr), fun h1 r hr => h1 r ((h r).1 hr)⟩

theorem back_congr {s : Space} {m m' : Seen} (h : ∀ t : Int, left m t = left m' t) (k : Nat) : ∀ j, s.back m k j = s.back m' k j
  | 0 => by unfold Space.back; rw [h]
  | j + 1 => by unfold Space.back Space.lead; rw [back_congr h k j, h]

theorem order_same {s : Space} {l l' : List Rd} (h : s.good l) (h' : s.good l') (hm : ∀ r, r ∈ l ↔ r ∈ l') {now : Nat} (hn : now ≤ 60) :
    s.levelE l' now = s.levelE l now ∧ s.untilE l' now = s.untilE l now ∧ s.refusalE l' now = s.refusalE l now := by
  obtain ⟨aN, aS⟩ := answers h hn
  obtain ⟨bN, bS⟩ := answers h' hn
  have hleft : ∀ t : Int, left (s.seen l) t = left (s.seen l') t := fun t => left_congr h.ok h'.ok fun n => same_agrees hm t n
  have hsame := lv_congr (s := s) (m := s.seen l) (m' := s.seen l') now fun i _ => hleft i
  have e1 : s.levelE l' now = s.levelE l now := by
    by_cases hX : s.lv (s.seen l) now = none'
    · rw [(aN hX).1, (bN (hsame ▸ hX)).1]
    · rw [(aS hX).1, (bS (hsame ▸ hX)).1, hsame]
  refine ⟨e1, ?_, ?_⟩
  · by_cases hX : s.lv (s.seen l) now = none'
    · rw [(aN hX).2, (bN (hsame ▸ hX)).2]
    · rw [(aS hX).2, (bS (hsame ▸ hX)).2, hsame]
  · unfold Space.refusalE
    rw [e1]
    have : ∀ k, s.allB (s.seen l') k = s.allB (s.seen l) k := fun k => by
      unfold Space.allB
      congr 1
      funext j
      exact (back_congr hleft k (k - j)).symm
    rw [this]

/-- A reading is put among others. -/
theorem mem_put {α : Type} {l : List α} {x : α} {k : Nat} (r : α) : r ∈ l.take k ++ [x] ++ l.drop k ↔ r ∈ l ∨ r = x := by
  have h : r ∈ l ↔ r ∈ l.take k ∨ r ∈ l.drop k := by rw [← List.mem_append, List.take_append_drop]
  rw [List.mem_append, List.mem_append, List.mem_singleton, h]
  constructor
  · rintro ((h | h) | h)
    · exact .inl (.inl h)
    · exact .inr h
    · exact .inl (.inr h)
  · rintro ((h | h) | h)
    · exact .inl (.inl h)
    · exact .inr h
    · exact .inl (.inr h)

end Go.Proofs.Gas

namespace Go.Proofs.Gas
open Go.V Go.Proofs

theorem refusal_len (s : Space) (l : List Rd) (now : Nat) : (s.refusalE l now).1.length ≤ now + 1 := by
  have hw : ∀ (xs : List Sp) (t lv : Int), (s.walkT xs t lv).length = xs.length := by
    intro xs
    induction xs with
    | nil => intro t lv; rfl
    | cons x r ih => intro t lv; simp [Space.walkT, ih]
  unfold Space.refusalE
  split
  · simp
  · split
    · simp
    · simp only [hw, Space.allB, List.length_map, List.length_range, Int.toNat_natCast]
      exact Nat.le_refl _

set_option maxHeartbeats 4000000 in
theorem den11 (s : Space) (l : List Rd) (p : Pa) (hp : p.ok) : DN 11 [.agg s.enc, .list 3 (l.map Rd.enc), .agg p.enc] (.bool true) := by
  refine mk Try.func11 Try.call11 rfl rfl ?_
  have hll : ((l.map Rd.enc).length : Int) = l.length := by simp
  refine ⟨_, rfl, _, den36 s l, ?_⟩
  by_cases h0 : s.readE l = 0
  · rw [h0]
    refine ⟨(fun h => nomatch h), fun _ => ?_⟩
    have hg := good_of h0
    have hlen := hg.len
    obtain ⟨p1, p2, p3, p4⟩ := hp
    have hnr := tmod_range p4.1 (k := 61) (by decide)
    obtain ⟨now, hnow⟩ : ∃ now : Nat, p.now.tmod 61 = now := ⟨(p.now.tmod 61).toNat, by omega⟩
    rw [hnow] at hnr
    have hn60 : now ≤ 60 := by omega
    refine ⟨p.now, wrap64 (by omega) (by omega), ?_⟩
    refine ⟨by decide, (now : Int), hnow, ?_⟩
    refine ⟨[1, 3, 5, 7, 8, 9], 2, [(.slot 8, 3), (.swap 2 4, 0)], fun σ => ∃ (i : Nat) (other : List Rd) (g : Nat), i ≤ l.length ∧ other.length = i ∧ (∀ r, r ∈ other ↔ r ∈ l.take i) ∧ (g = 0 ∨ g = 2) ∧
      σ = ⟨[(1, .list 3 (l.map Rd.enc)), (3, .loc 0 0), (5, .loc 1 0), (7, .int .i64 now), (8, .sl 2 g 0 (other.map Rd.enc).length), (9, .int .i64 i)],
        [.flat false s.enc, .flat false p.enc, .rows false g 3 (other.map Rd.enc)], .non⟩, fun σ => (1000 - slotI 9 σ).toNat, rfl, ⟨rfl, rfl⟩, ⟨0, [], 0, Nat.zero_le _, rfl, by simp, .inl rfl, rfl⟩, ?_⟩
    rintro σ ⟨i, other, g, hi, hol, hmem, hg02, rfl⟩
    refine ⟨fun h1 => ?_, fun h1 => ?_⟩
    · have h1 : (i : Int) < l.length := by rw [← hll]; exact of_decide_eq_true h1
      have hi' : i < l.length := by omega
      obtain ⟨r, hr⟩ : ∃ r, l[i] = r := ⟨_, rfl⟩
      have hrow : (l.map Rd.enc)[((i : Int)).toNat]? = some (r.enc) := by simp [hi', hr]
      have htn := turn_in p1 (by decide) (i : Int)
      have har := tmod_range htn.1 (k := (i : Int) + 1) (by omega)
      obtain ⟨k, hk⟩ : ∃ k : Nat, (turnE p.levels i).tmod ((i : Int) + 1) = k := ⟨((turnE p.levels i).tmod ((i : Int) + 1)).toNat, by omega⟩
      rw [hk] at har
      have hki : k ≤ other.length := by omega
      have hmemN : ∀ x, x ∈ other.take k ++ [r] ++ other.drop k ↔ x ∈ l.take (i + 1) := fun x => by
        rw [mem_put, hmem, List.take_succ_eq_append_getElem hi', List.mem_append, List.mem_singleton, hr]
      have hlenN : (other.take k ++ [r] ++ other.drop k).length = i + 1 := by
        rw [List.length_append, List.length_append, List.length_take, List.length_drop, List.length_singleton]; omega
      have hcat1 : List.take ((k : Int)).toNat (List.drop 0 (other.map Rd.enc)) ++ [r.enc] = (other.take k ++ [r]).map Rd.enc := by simp
      have hcat2 : (other.take k ++ [r]).map Rd.enc ++ List.take ((other.map Rd.enc).length - ((k : Int)).toNat) (List.drop (0 + ((k : Int)).toNat) (other.map Rd.enc)) = (other.take k ++ [r] ++ other.drop k).map Rd.enc := by
        rw [Int.toNat_natCast, Nat.zero_add]
        have e : List.take ((other.map Rd.enc).length - k) (List.drop k (other.map Rd.enc)) = List.drop k (other.map Rd.enc) := List.take_of_length_le (by rw [List.length_drop]; exact Nat.le_refl _)
        rw [e]
        simp
      have hkl : (k : Int) ≤ ((other.map Rd.enc).length : Int) := by rw [List.length_map]; omega
      have hb1 : (List.take ((k : Int)).toNat (List.drop 0 (other.map Rd.enc))).length * 24 ≤ mostBytes := by
        have : (List.take ((k : Int)).toNat (List.drop 0 (other.map Rd.enc))).length ≤ k := by rw [Int.toNat_natCast]; exact List.length_take_le _ _
        unfold mostBytes; omega
      have hb2 : ((List.take ((k : Int)).toNat (List.drop 0 (other.map Rd.enc))).length + 1) * 24 ≤ mostBytes := by
        unfold mostBytes at hb1 ⊢
        have : (List.take ((k : Int)).toNat (List.drop 0 (other.map Rd.enc))).length ≤ k := by rw [Int.toNat_natCast]; exact List.length_take_le _ _
        omega
      have hb3 : (((other.take k ++ [r]).map Rd.enc).length + (List.take ((other.map Rd.enc).length - ((k : Int)).toNat) (List.drop (0 + ((k : Int)).toNat) (other.map Rd.enc))).length) * 24 ≤ mostBytes := by
        rw [← List.length_append, hcat2, List.length_map, hlenN]; unfold mostBytes; omega
      have hme : (1000 - ((i : Int) + 1)).toNat < (1000 - (i : Int)).toNat := by omega
      rcases hg02 with rfl | rfl
      all_goals
        refine ⟨_, rfl, _, den38 p.levels i p1 (by omega), ?_⟩
        refine ⟨(i : Int) + 1, wrap64 (by omega) (by omega), ?_⟩
        refine ⟨by omega, (k : Int), hk, ?_⟩
        refine Or.inr (Or.inr ⟨[0, 1, 2, 3, 4, 5, 6, 7, 8, 9, 11, 12, 13, 10, 14, 15], 13, [10, 11, 12], by kernel_rfl, ?_⟩)
        refine ⟨⟨by omega, hkl⟩, ?_⟩
        refine ⟨trivial, hb1, ?_⟩
        refine ⟨by omega, _, hrow, ?_⟩
        refine ⟨⟨by omega, hkl⟩, ?_⟩
        refine ⟨trivial, iff' (by rfl) ⟨rfl, hb2, _, hcat1, ?_⟩⟩
        refine ⟨⟨rfl, rfl, ⟨⟨by omega, hkl⟩, rfl⟩, trivial⟩, ?_⟩
        refine ⟨trivial, iff' (by rfl) ⟨rfl, hb3, _, hcat2, ?_⟩⟩
        refine ⟨⟨rfl, rfl, trivial⟩, ?_⟩
        refine ⟨trivial, ?_⟩
        refine ⟨(i : Int) + 1, wrap64 (by omega) (by omega), ?_⟩
        exact ⟨⟨rfl, rfl⟩, ⟨i + 1, _, 2, by omega, hlenN, hmemN, .inr rfl, rfl⟩, hme⟩
    have h1 : ¬ (i : Int) < l.length := by rw [← hll]; exact of_decide_eq_false h1
    have hil : i = l.length := by omega
    subst hil
    rw [List.take_length] at hmem
    obtain ⟨a, ha⟩ : ∃ a, s.levelE l now = a := ⟨_, rfl⟩
    obtain ⟨b, hb⟩ : ∃ b, s.untilE l now = b := ⟨_, rfl⟩
    obtain ⟨c, hc⟩ : ∃ c, s.refusalE l now = c := ⟨_, rfl⟩
    have hcl : c.1.length < 1000000 := by have := refusal_len s l now; rw [hc] at this; omega
    have h17a := den17 s l now
    have h19a := den19 s l now
    have h22a := den22 s l now
    rw [ha] at h17a
    rw [hb] at h19a
    rw [hc] at h22a
    have hall : ∀ O : List Rd, O.length ≤ 12 → (∀ r, r ∈ l ↔ r ∈ O) → DN 17 [.agg s.enc, .list 3 (O.map Rd.enc), .int .i64 now] (levD a) ∧ DN 19 [.agg s.enc, .list 3 (O.map Rd.enc), .int .i64 now] (intsD b) ∧ DN 22 [.agg s.enc, .list 3 (O.map Rd.enc), .int .i64 now] (listD c) := fun O h1 h2 => by
      obtain ⟨e1, e2, e3⟩ := order_same hg (good_sub hg h1 fun r hr => (h2 r).2 hr) h2 hn60
      have x := den17 s O now
      have y := den19 s O now
      have z := den22 s O now
      rw [e1, ha] at x
      rw [e2, hb] at y
      rw [e3, hc] at z
      exact ⟨x, y, z⟩
    refine ⟨fun h2 => ?_, fun h2 => ?_⟩
    · refine ⟨fun h3 => ?_, fun h3 => ?_⟩
      · have h2 : 0 < (l.length : Int) := by rw [← hll]; exact of_decide_eq_true h2
        have h3 : (l.length : Int) < 12 := by rw [← hll]; exact of_decide_eq_true h3
        have htn := turn_in p1 (by decide) 1
        have har := tmod_range htn.1 (k := (l.length : Int)) (by omega)
        obtain ⟨k, hk⟩ : ∃ k : Nat, (turnE p.levels 1).tmod (l.length : Int) = k := ⟨((turnE p.levels 1).tmod (l.length : Int)).toNat, by omega⟩
        rw [hk] at har
        have hkl : k < l.length := by omega
        obtain ⟨x, hx⟩ : ∃ x, l[k] = x := ⟨_, rfl⟩
        have hxl : x ∈ l := by rw [← hx]; exact List.getElem_mem hkl
        have hrow : (l.map Rd.enc)[((k : Int)).toNat]? = some (x.enc) := by simp [hkl, hx]
        have hcat : other.map Rd.enc ++ [x.enc] = (other ++ [x]).map Rd.enc := by simp
        obtain ⟨h17b, h19b, h22b⟩ := hall (other ++ [x]) (by simp; omega) fun r => by
          rw [List.mem_append, List.mem_singleton, hmem]
          constructor
          · exact .inl
          · rintro (h | rfl)
            · exact h
            · exact hxl
        refine ⟨_, rfl, _, den38 p.levels 1 p1 (by decide), ?_⟩
        refine ⟨by rw [hll]; omega, (k : Int), by rw [hll]; exact hk, ?_⟩
        refine ⟨by omega, _, hrow, ?_⟩
        refine ⟨trivial, iff' (by rw [beq_self]; rfl) ⟨rfl, ?_, _, hcat, ?_⟩⟩
        · show ((other.map Rd.enc).length + 1) * 24 ≤ mostBytes
          rw [List.length_map]; unfold mostBytes; omega
        refine ⟨_, rfl, _, h17a, ?_⟩
        refine ⟨_, mapO_cons rfl (mapO_cons (reify_sl rfl rfl) (mapO_cons rfl rfl)), _, h17b, ?_⟩
        refine ⟨_, rfl, _, h19a, ?_⟩
        refine ⟨_, mapO_cons rfl (mapO_cons (reify_sl rfl rfl) (mapO_cons rfl rfl)), _, h19b, ?_⟩
        refine ⟨_, rfl, _, h22a, ?_⟩
        refine ⟨_, mapO_cons rfl (mapO_cons (reify_sl rfl rfl) (mapO_cons rfl rfl)), _, h22b, ?_⟩
        refine ⟨fun _ => ?_, fun h => absurd (show (((a.1.lo == a.1.lo) && ((a.1.hi == a.1.hi) && true)) = false) from h) (by simp)⟩
        refine ⟨fun _ => ?_, fun h => absurd (show (a.2 == a.2) = false from h) (by simp)⟩
        refine ⟨fun _ => ?_, fun h => absurd (show (b.1 == b.1) = false from h) (by simp)⟩
        refine ⟨fun _ => ?_, fun h => absurd (show (b.2 == b.2) = false from h) (by simp)⟩
        refine ⟨_, rfl, _, den24 c.1 c.1 hcl, ?_⟩
        refine ⟨fun _ => ?_, fun h => absurd (show decide (c.1 = c.1) = false from h) (by simp)⟩
        refine ⟨fun _ => ?_, fun h => absurd (show (c.2 == c.2) = false from h) (by simp)⟩
        exact ⟨_, rfl, _, den21, rfl⟩
      · obtain ⟨h17b, h19b, h22b⟩ := hall other (by omega) fun r => (hmem r).symm
        refine ⟨_, rfl, _, h17a, ?_⟩
        refine ⟨_, mapO_cons rfl (mapO_cons (reify_sl rfl rfl) (mapO_cons rfl rfl)), _, h17b, ?_⟩
        refine ⟨_, rfl, _, h19a, ?_⟩
        refine ⟨_, mapO_cons rfl (mapO_cons (reify_sl rfl rfl) (mapO_cons rfl rfl)), _, h19b, ?_⟩
        refine ⟨_, rfl, _, h22a, ?_⟩
        refine ⟨_, mapO_cons rfl (mapO_cons (reify_sl rfl rfl) (mapO_cons rfl rfl)), _, h22b, ?_⟩
        refine ⟨fun _ => ?_, fun h => absurd (show (((a.1.lo == a.1.lo) && ((a.1.hi == a.1.hi) && true)) = false) from h) (by simp)⟩
        refine ⟨fun _ => ?_, fun h => absurd (show (a.2 == a.2) = false from h) (by simp)⟩
        refine ⟨fun _ => ?_, fun h => absurd (show (b.1 == b.1) = false from h) (by simp)⟩
        refine ⟨fun _ => ?_, fun h => absurd (show (b.2 == b.2) = false from h) (by simp)⟩
        refine ⟨_, rfl, _, den24 c.1 c.1 hcl, ?_⟩
        refine ⟨fun _ => ?_, fun h => absurd (show decide (c.1 = c.1) = false from h) (by simp)⟩
        refine ⟨fun _ => ?_, fun h => absurd (show (c.2 == c.2) = false from h) (by simp)⟩
        exact ⟨_, rfl, _, den21, rfl⟩
    · obtain ⟨h17b, h19b, h22b⟩ := hall other (by omega) fun r => (hmem r).symm
      refine ⟨_, rfl, _, h17a, ?_⟩
      refine ⟨_, mapO_cons rfl (mapO_cons (reify_sl rfl rfl) (mapO_cons rfl rfl)), _, h17b, ?_⟩
      refine ⟨_, rfl, _, h19a, ?_⟩
      refine ⟨_, mapO_cons rfl (mapO_cons (reify_sl rfl rfl) (mapO_cons rfl rfl)), _, h19b, ?_⟩
      refine ⟨_, rfl, _, h22a, ?_⟩
      refine ⟨_, mapO_cons rfl (mapO_cons (reify_sl rfl rfl) (mapO_cons rfl rfl)), _, h22b, ?_⟩
      refine ⟨fun _ => ?_, fun h => absurd (show (((a.1.lo == a.1.lo) && ((a.1.hi == a.1.hi) && true)) = false) from h) (by simp)⟩
      refine ⟨fun _ => ?_, fun h => absurd (show (a.2 == a.2) = false from h) (by simp)⟩
      refine ⟨fun _ => ?_, fun h => absurd (show (b.1 == b.1) = false from h) (by simp)⟩
      refine ⟨fun _ => ?_, fun h => absurd (show (b.2 == b.2) = false from h) (by simp)⟩
      refine ⟨_, rfl, _, den24 c.1 c.1 hcl, ?_⟩
      refine ⟨fun _ => ?_, fun h => absurd (show decide (c.1 = c.1) = false from h) (by simp)⟩
      refine ⟨fun _ => ?_, fun h => absurd (show (c.2 == c.2) = false from h) (by simp)⟩
      exact ⟨_, rfl, _, den21, rfl⟩
  · have hb : (s.readE l != 0) = true := by simpa using h0
    refine ⟨fun _ => ?_, fun h => absurd (hb.symm.trans h) (by decide)⟩
    exact ⟨_, rfl, _, den21, rfl⟩

end Go.Proofs.Gas
