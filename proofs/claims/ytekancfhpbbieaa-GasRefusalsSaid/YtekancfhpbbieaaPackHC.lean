/- Refusal, in the reference. No condition. -/
import Derived.Test.YtekancfhpbbieaaPackHB

namespace Go.Proofs.Gas
open Go.V Go.Proofs

theorem splice_one {cs : List D} {off : Nat} {d : D} (h : off < cs.length) : splice cs off [d] = cs.set off d := by
  unfold splice
  rw [List.set_eq_take_append_cons_drop, if_pos h]
  rfl

/-- The levels of each minute, those from j on being there. -/
def tabA (B : Nat → Sp) (k j : Nat) (last : D) : List D := (List.range (k + 1)).map fun i => if i < j then .nils else if i < k then lvlD (memF (B i)) else last
theorem tabA_len (B : Nat → Sp) (k j : Nat) (last : D) : (tabA B k j last).length = k + 1 := by simp [tabA]
theorem tabA_get {B : Nat → Sp} {k j : Nat} {last : D} {i : Nat} (hi : i ≤ k) : (tabA B k j last)[i]? = some (if i < j then .nils else if i < k then lvlD (memF (B i)) else last) := by
  unfold tabA; rw [List.getElem?_map, List.getElem?_range (by omega)]; rfl
theorem tabA_old {B : Nat → Sp} {k j : Nat} {last : D} {i : Nat} (hj : j ≤ i) (hi : i < k) : (tabA B k j last)[i]? = some (lvlD (memF (B i))) := by
  rw [tabA_get (by omega), if_neg (by omega), if_pos hi]
theorem tabA_last {B : Nat → Sp} {k j : Nat} {last : D} (hj : j ≤ k) : (tabA B k j last)[k]? = some last := by
  rw [tabA_get (Nat.le_refl k), if_neg (by omega), if_neg (by omega)]
theorem tabA_first (B : Nat → Sp) (k : Nat) (last : D) : splice (List.replicate (k + 1) D.nils) k [last] = tabA B k k last := by
  rw [splice_one (by simp)]
  apply List.ext_getElem?
  intro i
  by_cases hi : i ≤ k
  · rw [tabA_get hi, List.getElem?_set]
    by_cases h : k = i
    · subst h
      simp
    · rw [if_neg h, List.getElem?_replicate, if_pos (by omega), if_pos (by omega)]
  · rw [List.getElem?_eq_none (by simp; omega), List.getElem?_eq_none (by rw [tabA_len]; omega)]
theorem tabA_set {B : Nat → Sp} {k j : Nat} {last : D} (hj : j < k) : splice (tabA B k (j + 1) last) j [lvlD (memF (B j))] = tabA B k j last := by
  rw [splice_one (by rw [tabA_len]; omega)]
  apply List.ext_getElem?
  intro i
  by_cases hi : i ≤ k
  · rw [tabA_get hi, List.getElem?_set]
    by_cases h : j = i
    · subst h
      rw [if_pos rfl, if_pos (by rw [tabA_len]; omega), if_neg (by omega), if_pos hj]
    · rw [if_neg h, tabA_get hi]
      congr 1
      by_cases h1 : i < j
      · rw [if_pos (by omega), if_pos h1]
      · rw [if_neg (by omega), if_neg h1]
  · rw [List.getElem?_eq_none (by rw [List.length_set, tabA_len]; omega), List.getElem?_eq_none (by rw [tabA_len]; omega)]

theorem okAll_mem {nb : Nat} : ∀ {l : List D}, (∀ d ∈ l, okAt nb d = true) → okAll nb l = true
  | [], _ => rfl
  | d :: r, h => by
    simp only [okAll, h d (by simp)]
    exact okAll_mem fun x hx => h x (by simp [hx])
theorem tabA_ok (B : Nat → Sp) (k j : Nat) {nb : Nat} (hnb : 3 < nb) : okAll nb (tabA B k j (.sl 3 0 0 201)) = true := by
  refine okAll_mem fun d hd => ?_
  unfold tabA at hd
  obtain ⟨i, _, rfl⟩ := List.mem_map.1 hd
  split
  · rfl
  · split
    · rfl
    · exact Nat.ble_eq_true_of_le hnb
theorem okB4 (s : Space) (X : Sp) (B : Nat → Sp) (k j : Nat) (fz : Bool) (R : List (List D)) : okBoxes 4 [.flat false s.enc, .flat false X.enc, .flat false (tabA B k j (.sl 3 0 0 201)), .rows fz 0 1 R] = true := by
  show (match okAll 4 (tabA B k j (.sl 3 0 0 201)) with | true => true | false => false) = true
  rw [tabA_ok B k j (by decide)]
theorem okB5 (s : Space) (X : Sp) (B : Nat → Sp) (k j g : Nat) (fz : Bool) (R r : List (List D)) : okBoxes 5 [.flat false s.enc, .flat false X.enc, .flat false (tabA B k j (.sl 3 0 0 201)), .rows fz 0 1 R, .rows false g 1 r] = true := by
  show (match okAll 5 (tabA B k j (.sl 3 0 0 201)) with | true => true | false => false) = true
  rw [tabA_ok B k j (by decide)]

set_option maxHeartbeats 8000000 in
theorem den23 (s : Space) (l : List Rd) (minute : Int) : DN 23 [.agg s.enc, .list 3 (l.map Rd.enc), .int .i64 minute] (listD (s.refusalE l minute)) := by
  refine mkW Try.func23 Try.call23 rfl rfl ?_
  have h49 := den49 s l minute
  obtain ⟨v, hv⟩ : ∃ v, s.levelE l minute = v := ⟨_, rfl⟩
  by_cases h0 : v.2 = 0
  · have hz := levelE_zero (s := s) (l := l) (minute := minute) (by rw [hv]; exact h0)
    obtain ⟨z1, z2, z3, z4⟩ := hz
    have hg := good_of z1
    obtain ⟨k, rfl⟩ : ∃ k : Nat, minute = k := ⟨minute.toNat, by omega⟩
    rw [Int.toNat_natCast] at z3 z4
    have hv1 : v = (s.lv (s.seen l) k, 0) := by rw [← hv, z4]
    have hlev := lv_lev hg.v (s.seen l) k
    have hmore := refusal_more hg (k := k) (by omega) z3
    rw [hv, askD, if_pos h0, hv1] at h49
    have hlim := hg.v.limit
    have hblen := hg.v.blen
    have hst := hg.v.start
    obtain ⟨X, hX⟩ : ∃ X, s.lv (s.seen l) k = X := ⟨_, rfl⟩
    rw [hX] at h49 hlev z3 hmore hv1
    have hk : k ≤ 60 := by omega
    refine ⟨_, rfl, _, h49, ?_⟩
    refine ⟨(fun h => nomatch h), fun _ => ?_⟩
    refine ⟨_, rfl, _, ends_pos hlev z3, ?_⟩
    refine ⟨fun h2 => ?_, fun h2 => ?_⟩
    · have h2 : X.hi ≤ s.limit := of_decide_eq_true h2
      rw [refusalE_none hv h0 (decide_eq_true (by rw [hv1]; exact h2))]
      exact ⟨.tup [.list 0 [], .int .i64 4], rfl, .tcons (.nil _ _) (.tcons (.refl _) .tnil)⟩
    · have h2 : ¬ X.hi ≤ s.limit := of_decide_eq_false h2
      obtain ⟨hE, hB⟩ := hmore (by omega)
      rw [hE]
      obtain ⟨B, hBe⟩ : ∃ B, s.bk (s.seen l) k = B := ⟨_, rfl⟩
      have hlead : ∀ j, j + 1 ≤ k → s.lead (s.seen l) j (B (j + 1)) = B j := fun j hj => by rw [← hBe, bk_lead s (s.seen l) hj]
      have hlast : B k = both (left (s.seen l) k) ⟨s.limit + 1, 200⟩ := by rw [← hBe, bk_last]
      have hrng := hB.rng
      have hstep := hB.step
      have hmem := hB.mem
      rw [hBe] at hrng hstep hmem ⊢
      obtain ⟨G, hG⟩ : ∃ G, memF (left (s.seen l) k) = G := ⟨_, rfl⟩
      have hwk : ∀ n, n < 201 → memF (B k) n = (decide (s.limit + 1 ≤ (n : Int) ∧ (n : Int) ≤ 200) && G n) := fun n hn => by
        rw [hlast, ← hG]
        unfold memF
        rw [mem_both, Bool.and_comm]
        congr 1
        rw [Bool.eq_iff_iff, inB_iff, decide_eq_true_eq]
      have h62 := den62
      have htwr : ∀ j, j ≤ k → 0 ≤ s.tw B j ∧ s.tw B j ≤ 200 := fun j hj => by
        have := inB_iff.1 (hmem j hj)
        have := hrng j hj
        omega
      refine ⟨(k : Int) + 1, wrap64 (by omega) (by omega), ?_⟩
      refine ⟨by omega, rfl, (by show 24 * ((k : Int) + 1) ≤ mostBytes; unfold mostBytes; omega), k + 1, by omega, List.replicate (k + 1) .nils, rfl, ?_⟩
      refine ⟨by decide, rfl, by decide, 201, rfl, rowW G (s.limit + 1) s.limit, (rowW_none _ (by omega)).symm, ?_⟩
      refine ⟨by omega, by omega, k, by omega, ?_⟩
      refine ⟨(by rw [List.length_replicate]; exact Nat.le_refl _), tabA B k k (.sl 3 0 0 201), tabA_first B k _, ?_⟩
      refine ⟨s.limit + 1, wrap64 (by omega) (by omega), ?_⟩
      refine ⟨[1, 2, 3, 12, 13], 4, [], fun σ => ∃ n : Int, (s.limit + 1 ≤ n ∧ n ≤ 201) ∧
        σ = ⟨[(1, .list 3 (l.map Rd.enc)), (2, .int .i64 k), (3, .loc 0 0), (12, .asl 2 (k + 1)), (13, .int .i64 n)],
          [.flat false s.enc, .flat false X.enc, .flat false (tabA B k k (.sl 3 0 0 201)), .rows false 0 1 (rowW G (s.limit + 1) (n - 1))], .non⟩, fun σ => (1000 - slotI 13 σ).toNat, rfl, ⟨rfl, okB4 s X B _ _ _ _⟩, ⟨s.limit + 1, by omega, ?_⟩, ?_⟩
      · rw [show s.limit + 1 - 1 = s.limit by omega]; rfl
      rintro σ ⟨n, hn, rfl⟩
      refine ⟨fun h3 => ?_, fun h3 => ?_⟩
      · have h3 : n ≤ 200 := of_decide_eq_true h3
        refine Or.inl ⟨by kernel_rfl, ?_⟩
        refine ⟨by omega, by omega, k, by omega, ?_⟩
        refine ⟨.sl 3 0 0 201, tabA_last (Nat.le_refl k), ?_⟩
        refine ⟨_, rfl, _, good_den59 hg k n (by omega), ?_⟩
        refine ⟨by omega, by omega, n.toNat, by omega, ?_⟩
        refine ⟨_, rowW_get _ _ _ (by omega), ?_, rowW G (s.limit + 1) n, ?_, ?_⟩
        · rw [if_neg (by omega)]; exact Nat.le_refl 1
        · have : splice (if s.limit + 1 ≤ ((n.toNat : Nat) : Int) ∧ ((n.toNat : Nat) : Int) ≤ n - 1 then [.bool (G n.toNat)] else [D.ff]) 0 [D.bool (inB n (left (s.seen l) k))] = [D.bool (G n.toNat)] := by
            rw [if_neg (by omega), ← hG]
            unfold memF
            rw [Int.toNat_of_nonneg (by omega)]
            rfl
          rw [this]
          exact rowW_set _ (by omega) (by omega) (by omega) (by omega)
        refine ⟨n + 1, wrap64 (by omega) (by omega), ?_⟩
        refine ⟨⟨rfl, okB4 s X B _ _ _ _⟩, ⟨n + 1, by omega, ?_⟩, by show (1000 - (n + 1)).toNat < (1000 - n).toNat; omega⟩
        rw [show n + 1 - 1 = n by omega]
        rfl
      · have h3 : ¬ n ≤ 200 := of_decide_eq_false h3
        obtain rfl : n = 201 := by omega
        obtain ⟨R, hR⟩ : ∃ R, rowW G (s.limit + 1) (201 - 1) = R := ⟨_, rfl⟩
        have hRl : R.length = 201 := by rw [← hR, rowW_len]
        have hRw : Wk (.list 1 R) (lvlD (memF (B k))) := by rw [← hR]; exact Wk_rows hwk
        have hRg : ∀ n : Nat, n < 201 → (R[n]? = some [.bool (memF (B k) n)]) ∨ (R[n]? = some [.ff] ∧ memF (B k) n = false) := fun n hn => by
          rw [← hR, rowW_get _ _ _ hn, hwk n hn]
          by_cases hc : s.limit + 1 ≤ (n : Int) ∧ (n : Int) ≤ 201 - 1
          · rw [if_pos hc, decide_eq_true (by omega)]; exact .inl rfl
          · rw [if_neg hc, decide_eq_false (by omega)]; exact .inr ⟨rfl, rfl⟩
        rw [hR]
        refine ⟨(k : Int) - 1, wrap64 (by omega) (by omega), ?_⟩
        refine ⟨[1, 2, 3, 12, 14], 4, [], fun σ => ∃ (j : Nat) (fz : Bool), j ≤ k ∧
          σ = ⟨[(1, .list 3 (l.map Rd.enc)), (2, .int .i64 k), (3, .loc 0 0), (12, .asl 2 (k + 1)), (14, .int .i64 ((j : Int) - 1))],
            [.flat false s.enc, .flat false X.enc, .flat false (tabA B k j (.sl 3 0 0 201)), .rows fz 0 1 R], .non⟩, fun σ => (slotI 14 σ + 5).toNat, rfl, ⟨rfl, okB4 s X B _ _ _ _⟩, ⟨k, false, Nat.le_refl k, rfl⟩, ?_⟩
        rintro σ ⟨j, fz, hj, rfl⟩
        refine ⟨fun h4 => ?_, fun h4 => ?_⟩
        · have h4 : (j : Int) - 1 ≥ 0 := of_decide_eq_true h4
          obtain ⟨i, rfl⟩ : ∃ i, j = i + 1 := ⟨j - 1, by omega⟩
          have hi : ((i + 1 : Nat) : Int) - 1 = i := by omega
          have h60 := den60 s l hg (B (i + 1)) (hrng (i + 1) hj) i (by omega)
          rw [hlead i hj] at h60
          have hme : ((i : Int) - 1 + 5).toNat < ((i : Int) + 5).toNat := by omega
          rw [hi]
          refine Or.inl ⟨by kernel_rfl, ?_⟩
          refine ⟨(i : Int) + 1, wrap64 (by omega) (by omega), ?_⟩
          refine ⟨by omega, by omega, i + 1, by omega, ?_⟩
          by_cases hik : i + 1 = k
          · subst hik
            refine ⟨.sl 3 0 0 201, tabA_last (Nat.le_refl _), ?_⟩
            refine ⟨_, mapO_cons rfl (mapO_cons rfl (mapO_cons (reify_sl rfl hRl.symm) (mapO_cons rfl rfl))), _, h60.args (.tcons (.refl _) (.tcons (.refl _) (.tcons hRw (.tcons (.refl _) .tnil)))), ?_⟩
            refine ⟨by omega, by omega, i, by omega, ?_⟩
            refine ⟨(by rw [tabA_len]; show i + 1 ≤ i + 1 + 1; omega), _, tabA_set (by omega), ?_⟩
            refine ⟨(i : Int) - 1, wrap64 (by omega) (by omega), ?_⟩
            exact ⟨⟨rfl, okB4 s X B _ _ _ _⟩, ⟨i, true, by omega, rfl⟩, hme⟩
          · refine ⟨lvlD (memF (B (i + 1))), tabA_old (Nat.le_refl _) (by omega), ?_⟩
            refine ⟨_, rfl, _, h60, ?_⟩
            refine ⟨by omega, by omega, i, by omega, ?_⟩
            refine ⟨(by rw [tabA_len]; show i + 1 ≤ k + 1; omega), _, tabA_set (by omega), ?_⟩
            refine ⟨(i : Int) - 1, wrap64 (by omega) (by omega), ?_⟩
            exact ⟨⟨rfl, okB4 s X B _ _ _ _⟩, ⟨i, fz, by omega, rfl⟩, hme⟩
        · have h4 : ¬ (j : Int) - 1 ≥ 0 := of_decide_eq_false h4
          obtain rfl : j = 0 := by omega
          have h0B := hrng 0 (Nat.zero_le _)
          have h0m := inB_iff.1 (hmem 0 (Nat.zero_le _))
          have htw0 : s.tw B 0 = max s.start.lo (B 0).lo := rfl
          refine ⟨[2, 3, 12, 15], 4, [], fun σ => ∃ n : Int, (s.start.lo ≤ n ∧ n ≤ s.tw B 0) ∧
            σ = ⟨[(2, .int .i64 k), (3, .loc 0 0), (12, .asl 2 (k + 1)), (15, .int .i64 n)],
              [.flat false s.enc, .flat false X.enc, .flat false (tabA B k 0 (.sl 3 0 0 201)), .rows fz 0 1 R], .non⟩, fun σ => (1000 - slotI 15 σ).toNat, rfl, ⟨rfl, okB4 s X B _ _ _ _⟩, ⟨s.start.lo, by omega, rfl⟩, ?_⟩
          rintro σ ⟨n, hn, rfl⟩
          have hme : (1000 - (n + 1)).toNat < (1000 - n).toNat := by omega
          have hin : memF (B 0) n.toNat = decide (n ≥ (B 0).lo) := by
            unfold memF
            rw [Bool.eq_iff_iff, inB_iff, decide_eq_true_eq]
            omega
          have fin : ∀ (t g : Nat), t = k → ∃ d0, reify [.flat false s.enc, .flat false X.enc, .flat false (tabA B k 0 (.sl 3 0 0 201)), .rows fz 0 1 R, .rows false g 1 (((List.range (t + 1)).map (s.tw B)).map encI)] 8 (.tup [.sl 4 g 0 (((List.range (t + 1)).map (s.tw B)).map encI).length, .int .i64 0]) = some d0 ∧ Wk d0 (listD ((List.range (k + 1)).map (s.tw B), 0)) := fun t g h => by
            subst h
            exact ⟨_, reify_tup (mapO_cons (reify_sl rfl rfl) (mapO_cons rfl rfl)), .refl _⟩
          by_cases hk0 : k = 0
          · subst hk0
            refine ⟨by omega, by omega, 0, rfl, ?_⟩
            refine ⟨.sl 3 0 0 201, tabA_last (Nat.le_refl 0), ?_⟩
            refine ⟨by omega, by omega, n.toNat, by omega, ?_⟩
            rcases hRg n.toNat (by omega) with hr | ⟨hr, hf⟩
            · refine ⟨_, hr, ?_⟩
              refine ⟨fun h5 => ?_, fun h5 => ?_⟩
              · have h5 : (!(memF (B 0) n.toNat)) = true := h5
                rw [hin] at h5
                have h5 : ¬ n ≥ (B 0).lo := by simpa using h5
                refine ⟨n + 1, wrap64 (by omega) (by omega), ?_⟩
                exact ⟨⟨rfl, okB4 s X B _ _ _ _⟩, ⟨n + 1, by omega, rfl⟩, hme⟩
              · have h5 : (!(memF (B 0) n.toNat)) = false := h5
                rw [hin] at h5
                have h5 : n ≥ (B 0).lo := by simpa using h5
                obtain rfl : n = s.tw B 0 := by omega
                refine ⟨[2, 3, 12, 15, 16, 17], 5, [], fun σ => σ = ⟨[(2, .int .i64 ((0 : Nat) : Int)), (3, .loc 0 0), (12, .asl 2 (0 + 1)), (15, .int .i64 (s.tw B 0)), (16, .sl 4 0 0 1), (17, .int .i64 0)],
                  [.flat false s.enc, .flat false X.enc, .flat false (tabA B 0 0 (.sl 3 0 0 201)), .rows fz 0 1 R, .rows false 0 1 [[.int .i64 (s.tw B 0)]]], .non⟩, fun σ => 0, rfl, ⟨rfl, okB5 s X B _ _ _ _ _ _⟩, rfl, ?_⟩
                rintro σ rfl
                refine ⟨fun h6 => absurd (of_decide_eq_true h6) (by omega), fun _ => ?_⟩
                exact fin 0 0 rfl
            · refine ⟨_, hr, ?_⟩
              have h5 : ¬ n ≥ (B 0).lo := by rw [hin] at hf; exact of_decide_eq_false hf
              refine ⟨n + 1, wrap64 (by omega) (by omega), ?_⟩
              exact ⟨⟨rfl, okB4 s X B _ _ _ _⟩, ⟨n + 1, by omega, rfl⟩, hme⟩
          · refine ⟨by omega, by omega, 0, rfl, ?_⟩
            refine ⟨lvlD (memF (B 0)), tabA_old (Nat.le_refl 0) (by omega), ?_⟩
            refine ⟨by omega, _, rowF_get (memF (B 0)) (by omega), ?_⟩
            refine ⟨fun h5 => ?_, fun h5 => ?_⟩
            · have h5 : (!(memF (B 0) n.toNat)) = true := h5
              rw [hin] at h5
              have h5 : ¬ n ≥ (B 0).lo := by simpa using h5
              refine ⟨n + 1, wrap64 (by omega) (by omega), ?_⟩
              exact ⟨⟨rfl, okB4 s X B _ _ _ _⟩, ⟨n + 1, by omega, rfl⟩, hme⟩
            · have h5 : (!(memF (B 0) n.toNat)) = false := h5
              rw [hin] at h5
              have h5 : n ≥ (B 0).lo := by simpa using h5
              obtain rfl : n = s.tw B 0 := by omega
              refine ⟨[2, 3, 12, 15, 16, 17], 5, [], fun σ => ∃ t g : Nat, t ≤ k ∧ σ = ⟨[(2, .int .i64 k), (3, .loc 0 0), (12, .asl 2 (k + 1)), (15, .int .i64 (s.tw B t)), (16, .sl 4 g 0 (((List.range (t + 1)).map (s.tw B)).map encI).length), (17, .int .i64 t)],
                [.flat false s.enc, .flat false X.enc, .flat false (tabA B k 0 (.sl 3 0 0 201)), .rows fz 0 1 R, .rows false g 1 (((List.range (t + 1)).map (s.tw B)).map encI)], .non⟩, fun σ => (1000 - slotI 17 σ).toNat, rfl, ⟨rfl, okB5 s X B _ _ _ _ _ _⟩, ⟨0, 0, Nat.zero_le _, rfl⟩, ?_⟩
              rintro σ ⟨t, g, ht, rfl⟩
              refine ⟨fun h6 => ?_, fun h6 => ?_⟩
              · have h6 : (t : Int) < k := of_decide_eq_true h6
                have hme2 : (1000 - ((t : Int) + 1)).toNat < (1000 - (t : Int)).toNat := by omega
                have hr := riseAt_le hg.v t
                have hst1 := hstep t (by omega)
                have hBt := hrng (t + 1) (by omega)
                have htw1 : s.tw B (t + 1) = max (limited (s.tw B t + (s.riseAt t).lo)) (B (t + 1)).lo := rfl
                have htt := htwr t (by omega)
                obtain ⟨r, hre⟩ : ∃ r, s.riseAt t = r := ⟨_, rfl⟩
                have h61 := den61 s t (by omega)
                rw [hre] at h61 hr hst1 htw1
                obtain ⟨n, hn2⟩ : ∃ n, s.tw B t = n := ⟨_, rfl⟩
                rw [hn2] at hst1 htw1 htt ⊢
                obtain ⟨rows, hrows⟩ : ∃ rows, ((List.range (t + 1)).map (s.tw B)).map encI = rows := ⟨_, rfl⟩
                have hrl : rows.length = t + 1 := by rw [← hrows]; simp
                have hcat : ∀ v, v = s.tw B (t + 1) → rows ++ [[D.int .i64 v]] = ((List.range (t + 1 + 1)).map (s.tw B)).map encI := fun v hv => by
                  rw [hv, ← hrows, List.range_succ (n := t + 1)]; simp [encI]
                rw [hrows]
                refine ⟨_, rfl, _, h61, ?_⟩
                refine ⟨[2, 3, 12, 15, 16, 17, 18], 5, [], fun σ => ∃ b : Int, (r.lo ≤ b ∧ b ≤ r.hi) ∧ (b = r.lo ∨ limited (n + (b - 1)) < (B (t + 1)).lo) ∧
                  σ = ⟨[(2, .int .i64 k), (3, .loc 0 0), (12, .asl 2 (k + 1)), (15, .int .i64 n), (16, .sl 4 g 0 rows.length), (17, .int .i64 t), (18, .int .i64 b)],
                    [.flat false s.enc, .flat false X.enc, .flat false (tabA B k 0 (.sl 3 0 0 201)), .rows fz 0 1 R, .rows false g 1 rows], .non⟩, fun σ => (1000 - slotI 18 σ).toNat, rfl, ⟨rfl, okB5 s X B _ _ _ _ _ _⟩, ⟨r.lo, by omega, .inl rfl, rfl⟩, ?_⟩
                rintro σ ⟨b, hb, hbl, rfl⟩
                have hme3 : (1000 - (b + 1)).toNat < (1000 - b).toNat := by omega
                obtain ⟨q, hq⟩ : ∃ q, limited (n + b) = q := ⟨_, rfl⟩
                have hqr : 0 ≤ q ∧ q ≤ 200 := by unfold limited at hq; omega
                have hqB : q ≤ (B (t + 1)).hi := by unfold limited at *; omega
                have hin2 : memF (B (t + 1)) q.toNat = decide (q ≥ (B (t + 1)).lo) := by
                  unfold memF
                  rw [Bool.eq_iff_iff, inB_iff, decide_eq_true_eq]
                  omega
                have hmore : ¬ q ≥ (B (t + 1)).lo → b < r.hi ∧ limited (n + (b + 1 - 1)) < (B (t + 1)).lo := fun h => by
                  rw [show b + 1 - 1 = b by omega, hq]
                  refine ⟨?_, by omega⟩
                  unfold limited at *; omega
                have hdone : q ≥ (B (t + 1)).lo → q = s.tw B (t + 1) := fun h => by
                  unfold limited at *; omega
                refine Or.inl ⟨by kernel_rfl, ?_⟩
                refine ⟨(t : Int) + 1, wrap64 (by omega) (by omega), ?_⟩
                refine ⟨by omega, by omega, t + 1, by omega, ?_⟩
                by_cases htk : t + 1 = k
                · refine ⟨.sl 3 0 0 201, by rw [htk]; exact tabA_last (Nat.zero_le _), ?_⟩
                  refine ⟨n + b, wrap64 (by omega) (by omega), ?_⟩
                  refine ⟨_, rfl, _, h62 _, ?_⟩
                  rw [hq]
                  refine ⟨by omega, by omega, q.toNat, by omega, ?_⟩
                  rw [← htk] at hRg
                  rcases hRg q.toNat (by omega) with hrr | ⟨hrr, hf⟩
                  · refine ⟨_, hrr, ?_⟩
                    refine ⟨fun h7 => ?_, fun h7 => ?_⟩
                    · have h7 : (!(memF (B (t + 1)) q.toNat)) = true := h7
                      rw [hin2] at h7
                      have h7 := hmore (by simpa using h7)
                      refine ⟨b + 1, wrap64 (by omega) (by omega), ?_⟩
                      exact ⟨⟨rfl, okB5 s X B _ _ _ _ _ _⟩, ⟨b + 1, by omega, .inr h7.2, rfl⟩, hme3⟩
                    · have h7 : (!(memF (B (t + 1)) q.toNat)) = false := h7
                      rw [hin2] at h7
                      have h7 := hdone (by simpa using h7)
                      refine ⟨n + b, wrap64 (by omega) (by omega), ?_⟩
                      refine ⟨_, rfl, _, h62 _, ?_⟩
                      rw [hq]
                      refine ⟨trivial, iff' (by rw [beq_self]; rfl) ⟨rfl, ?_, _, hcat q h7, ?_⟩⟩
                      · rw [hrl]; show (_ + 1) * 8 ≤ mostBytes; unfold mostBytes; omega
                      refine ⟨(t : Int) + 1, wrap64 (by omega) (by omega), ?_⟩
                      exact ⟨⟨rfl, okB5 s X B _ _ _ _ _ _⟩, ⟨t + 1, g + 1, by omega, by rw [h7]; rfl⟩, hme2⟩
                  · refine ⟨_, hrr, ?_⟩
                    rw [hin2] at hf
                    have h7 := hmore (of_decide_eq_false hf)
                    refine ⟨b + 1, wrap64 (by omega) (by omega), ?_⟩
                    exact ⟨⟨rfl, okB5 s X B _ _ _ _ _ _⟩, ⟨b + 1, by omega, .inr h7.2, rfl⟩, hme3⟩
                · refine ⟨lvlD (memF (B (t + 1))), tabA_old (Nat.zero_le _) (by omega), ?_⟩
                  refine ⟨n + b, wrap64 (by omega) (by omega), ?_⟩
                  refine ⟨_, rfl, _, h62 _, ?_⟩
                  rw [hq]
                  refine ⟨by omega, _, rowF_get (memF (B (t + 1))) (by omega), ?_⟩
                  refine ⟨fun h7 => ?_, fun h7 => ?_⟩
                  · have h7 : (!(memF (B (t + 1)) q.toNat)) = true := h7
                    rw [hin2] at h7
                    have h7 := hmore (by simpa using h7)
                    refine ⟨b + 1, wrap64 (by omega) (by omega), ?_⟩
                    exact ⟨⟨rfl, okB5 s X B _ _ _ _ _ _⟩, ⟨b + 1, by omega, .inr h7.2, rfl⟩, hme3⟩
                  · have h7 : (!(memF (B (t + 1)) q.toNat)) = false := h7
                    rw [hin2] at h7
                    have h7 := hdone (by simpa using h7)
                    refine ⟨n + b, wrap64 (by omega) (by omega), ?_⟩
                    refine ⟨_, rfl, _, h62 _, ?_⟩
                    rw [hq]
                    refine ⟨trivial, iff' (by rw [beq_self]; rfl) ⟨rfl, ?_, _, hcat q h7, ?_⟩⟩
                    · rw [hrl]; show (_ + 1) * 8 ≤ mostBytes; unfold mostBytes; omega
                    refine ⟨(t : Int) + 1, wrap64 (by omega) (by omega), ?_⟩
                    exact ⟨⟨rfl, okB5 s X B _ _ _ _ _ _⟩, ⟨t + 1, g + 1, by omega, by rw [h7]; rfl⟩, hme2⟩
              · have h6 : ¬ (t : Int) < k := of_decide_eq_false h6
                exact fin t g (by omega)
  · rw [hv, askD, if_neg h0] at h49
    rw [refusalE_bad hv h0]
    refine ⟨_, rfl, _, h49, ?_⟩
    refine ⟨fun _ => ?_, fun h => absurd (by simpa using h) h0⟩
    exact ⟨.tup [.list 0 [], .int .i64 v.2], rfl, .tcons (.nil _ _) (.tcons (.refl _) .tnil)⟩

end Go.Proofs.Gas
