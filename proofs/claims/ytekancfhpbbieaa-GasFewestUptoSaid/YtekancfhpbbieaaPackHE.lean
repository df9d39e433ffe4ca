/- The fewest readings cover, and no fewer ones do: the plain law; Whether minutes are covered, in the reference. No condition. -/
import Derived.Test.YtekancfhpbbieaaPackGJ

namespace Go.Proofs.Gas
open Go.V Go.Proofs

/-- A minute is one at which a reading holds. -/
def covB (H : Int → Int) (l : List Int) (t : Int) : Bool := l.any fun m => decide (m ≤ t) && decide (H m ≥ t)
def covers (H : Int → Int) (l : List Int) (a to : Int) : Prop := ∀ t, a ≤ t → t ≤ to → covB H l t = true
theorem covB_iff {H : Int → Int} {l : List Int} {t : Int} : covB H l t = true ↔ ∃ m ∈ l, m ≤ t ∧ t ≤ H m := by
  unfold covB
  rw [List.any_eq_true]
  constructor
  · rintro ⟨m, h1, h2⟩
    rw [Bool.and_eq_true, decide_eq_true_eq, decide_eq_true_eq] at h2
    exact ⟨m, h1, h2.1, h2.2⟩
  · rintro ⟨m, h1, h2, h3⟩
    exact ⟨m, h1, by rw [Bool.and_eq_true, decide_eq_true_eq, decide_eq_true_eq]; exact ⟨h2, h3⟩⟩

theorem need_cover (H : Int → Int) (frm to : Int) : ∀ (n : Nat) (a : Int) (l : List Int), (to - a).toNat ≤ n → frm ≤ a → a ≤ to → (∀ m ∈ l, frm ≤ m) → covers H l a to → needN H frm to a ≤ l.length := by
  intro n
  induction n with
  | zero =>
    intro a l hn h1 h2 hl hc
    obtain ⟨m, hm, hm1, hm2⟩ := covB_iff.1 (hc a (Int.le_refl _) h2)
    have hb := need_best H frm to a h2
    have h3 := hb.min m (hl m hm) (by omega) hm2
    unfold costF at h3
    rw [if_neg (by omega)] at h3
    have : 0 < l.length := List.length_pos_of_mem hm
    have e : (needT H frm to a).1 = needN H frm to a := rfl
    omega
  | succ n ih =>
    intro a l hn h1 h2 hl hc
    obtain ⟨m, hm, hm1, hm2⟩ := covB_iff.1 (hc a (Int.le_refl _) h2)
    have hb := need_best H frm to a h2
    have h3 := hb.min m (hl m hm) (by omega) hm2
    have hpos : 0 < l.length := List.length_pos_of_mem hm
    have e : (needT H frm to a).1 = needN H frm to a := rfl
    unfold costF at h3
    by_cases hto : H m < to
    · rw [if_pos hto] at h3
      have h4 := ih (H m + 1) (l.erase m) (by omega) (by omega) (by omega) (fun x hx => hl x (List.mem_of_mem_erase hx)) (fun t ht1 ht2 => by
        obtain ⟨x, hx, hx1, hx2⟩ := covB_iff.1 (hc t (by omega) ht2)
        exact covB_iff.2 ⟨x, (List.mem_erase_of_ne (fun e => by rw [e] at hx2; omega)).2 hx, hx1, hx2⟩)
      rw [List.length_erase_of_mem hm] at h4
      omega
    · rw [if_neg hto] at h3
      omega

structure Chain (H : Int → Int) (frm to a : Int) (L : List Int) : Prop where
  len : (L.length : Int) = needN H frm to a
  inr : ∀ m ∈ L, frm ≤ m ∧ m ≤ to
  asc : L.Pairwise (· < ·)
  head : ∃ r, L = pickN H frm to a :: r
  cov : covers H L a to

theorem chain_spec (H : Int → Int) (frm to : Int) : ∀ (n : Nat) (a : Int) (f : Nat), (to - a).toNat ≤ n → frm ≤ a → a ≤ to → needN H frm to a < 62 → (to + 1 - a).toNat ≤ f → Chain H frm to a (chainF H to (pickN H frm to) f a) := by
  intro n
  induction n with
  | zero =>
    intro a f hn h1 h2 h62 hf
    obtain ⟨f, rfl⟩ : ∃ f', f = f' + 1 := ⟨f - 1, by omega⟩
    have hb := need_best H frm to a h2
    obtain ⟨⟨p1, p2⟩, p3, p4⟩ := hb.is h62
    obtain ⟨p, hp⟩ : ∃ p, pickN H frm to a = p := ⟨_, rfl⟩
    have hp' : (needT H frm to a).2 = p := hp
    rw [hp'] at p1 p2 p3 p4
    have e : (needT H frm to a).1 = needN H frm to a := rfl
    have hend : chainF H to (pickN H frm to) f (H p + 1) = [] := by
      cases f with
      | zero => rfl
      | succ f => rw [chainF, if_neg (by omega)]
    unfold costF at p4
    rw [if_neg (by omega)] at p4
    rw [chainF, if_pos h2, hp, hend]
    refine ⟨by simp; omega, fun m hm => ?_, List.pairwise_singleton _ _, ⟨[], by rw [hp]⟩, fun t ht1 ht2 => covB_iff.2 ⟨p, by simp, by omega, by omega⟩⟩
    rw [List.mem_singleton.1 hm]
    omega
  | succ n ih =>
    intro a f hn h1 h2 h62 hf
    obtain ⟨f, rfl⟩ : ∃ f', f = f' + 1 := ⟨f - 1, by omega⟩
    have hb := need_best H frm to a h2
    obtain ⟨⟨p1, p2⟩, p3, p4⟩ := hb.is h62
    obtain ⟨p, hp⟩ : ∃ p, pickN H frm to a = p := ⟨_, rfl⟩
    have hp' : (needT H frm to a).2 = p := hp
    rw [hp'] at p1 p2 p3 p4
    have e : (needT H frm to a).1 = needN H frm to a := rfl
    unfold costF at p4
    rw [chainF, if_pos h2, hp]
    by_cases hto : H p < to
    · rw [if_pos hto] at p4
      have hpa := pick_after (H := H) (frm := frm) (to := to) (a := a) h1 h2 h62 (by rw [hp]; omega)
      rw [hp] at hpa
      have h3 := ih (H p + 1) f (by omega) (by omega) (by omega) (by omega) (by omega)
      obtain ⟨L, hL⟩ : ∃ L, chainF H to (pickN H frm to) f (H p + 1) = L := ⟨_, rfl⟩
      rw [hL] at h3 ⊢
      obtain ⟨c1, c2, c3, ⟨r, c4⟩, c5⟩ := h3
      have hb2 := need_best H frm to (H p + 1) (by omega)
      have e2 : (needT H frm to (H p + 1)).1 = needN H frm to (H p + 1) := rfl
      obtain ⟨⟨q1, q2⟩, q3, q4⟩ := hb2.is (by omega)
      obtain ⟨q, hq⟩ : ∃ q, pickN H frm to (H p + 1) = q := ⟨_, rfl⟩
      have hq' : (needT H frm to (H p + 1)).2 = q := hq
      rw [hq'] at q1 q2 q3 q4
      rw [hq] at c4
      have hpq : p < q := Classical.byContradiction fun hc => by
        have := hpa q q1 (by omega)
        omega
      refine ⟨by simp; omega, fun m hm => ?_, List.pairwise_cons.2 ⟨fun m hm => ?_, c3⟩, ⟨L, by rw [hp]⟩, fun t ht1 ht2 => ?_⟩
      · rcases List.mem_cons.1 hm with rfl | hm
        · omega
        · exact c2 m hm
      · rw [c4] at hm c3
        rcases List.mem_cons.1 hm with rfl | hm
        · exact hpq
        · exact Int.lt_trans hpq ((List.pairwise_cons.1 c3).1 m hm)
      · by_cases ht : t ≤ H p
        · exact covB_iff.2 ⟨p, by simp, by omega, ht⟩
        · obtain ⟨m, hm, h4⟩ := covB_iff.1 (c5 t (by omega) ht2)
          exact covB_iff.2 ⟨m, List.mem_cons_of_mem _ hm, h4⟩
    · rw [if_neg hto] at p4
      have hend : chainF H to (pickN H frm to) f (H p + 1) = [] := by
        cases f with
        | zero => rfl
        | succ f => rw [chainF, if_neg (by omega)]
      rw [hend]
      refine ⟨by simp; omega, fun m hm => ?_, List.pairwise_singleton _ _, ⟨[], by rw [hp]⟩, fun t ht1 ht2 => covB_iff.2 ⟨p, by simp, by omega, by omega⟩⟩
      rw [List.mem_singleton.1 hm]
      omega

/-- All minutes of a span, one by one. -/
def coversB (H : Int → Int) (l : List Int) (a to : Int) : Bool := (List.range (to + 1 - a).toNat).all fun i => covB H l (a + i)
theorem coversB_iff {H : Int → Int} {l : List Int} {a to : Int} : coversB H l a to = true ↔ covers H l a to := by
  unfold coversB covers
  rw [List.all_eq_true]
  constructor
  · intro h t h1 h2
    have := h (t - a).toNat (List.mem_range.2 (by omega))
    rw [show a + (((t - a).toNat : Nat) : Int) = t by omega] at this
    exact this
  · intro h i hi
    have := List.mem_range.1 hi
    exact h _ (by omega) (by omega)

end Go.Proofs.Gas

namespace Go.Proofs.Gas
open Go.V Go.Proofs

theorem covB_next (H : Int → Int) {l : List Int} {i : Nat} {m : Int} (h : l[i]? = some m) (t : Int) : covB H (l.take (i + 1)) t = (covB H (l.take i) t || (decide (m ≤ t) && decide (H m ≥ t))) := by
  unfold covB
  rw [List.take_add_one, h, List.any_append]
  simp

set_option maxHeartbeats 4000000 in
theorem den39 (s : Space) (hv : s.Valid) (tool shown frm to : Int) (l : List Int) (ht : 0 ≤ tool ∧ tool < s.tools.length) (hs : -50 ≤ shown ∧ shown ≤ 250) (hf : 0 ≤ frm ∧ frm ≤ 60) (hto : 0 ≤ to ∧ to ≤ 60)
    (hl : ∀ m ∈ l, 0 ≤ m ∧ m ≤ 60) (hll : l.length ≤ 281474976710656) : DN 39 [.agg s.enc, .int .i64 tool, .int .i64 shown, .int .i64 frm, .int .i64 to, .list 1 (l.map encI)] (.bool (coversB (s.holdsE tool shown) l frm to)) := by
  refine mk Try.func39 Try.call39 rfl rfl ?_
  obtain ⟨H, hH⟩ : ∃ H, s.holdsE tool shown = H := ⟨_, rfl⟩
  have h66 : ∀ m, 0 ≤ m → m ≤ 60 → DN 66 [.agg s.enc, .int .i64 tool, .int .i64 shown, .int .i64 m] (.int .i64 (H m)) := fun m h0 h1 => by
    have := den66 s hv tool shown m ht hs ⟨h0, h1⟩
    rw [hH] at this
    exact this
  rw [hH]
  have hlen : ((l.map encI).length : Int) = l.length := by simp
  refine ⟨[1, 2, 4, 5, 6, 13], 1, [], fun σ => ∃ (t : Int) (j : Nat), t = frm + j ∧ (j = 0 ∨ t ≤ to + 1) ∧ (∀ x, frm ≤ x → x < t → covB H l x = true) ∧
    σ = ⟨[(1, .int .i64 tool), (2, .int .i64 shown), (4, .int .i64 to), (5, .list 1 (l.map encI)), (6, .loc 0 0), (13, .int .i64 t)], [.flat false s.enc], .non⟩,
    fun σ => (1000 - slotI 13 σ).toNat, rfl, ⟨rfl, rfl⟩, ⟨frm, 0, by omega, .inl rfl, fun x h1 h2 => by omega, rfl⟩, ?_⟩
  rintro σ ⟨t, j, htj, hjt, hall, rfl⟩
  refine ⟨fun h1 => ?_, fun h1 => ?_⟩
  · have h1 : t ≤ to := of_decide_eq_true h1
    refine ⟨[1, 2, 4, 5, 6, 13, 14, 15], 1, [], fun σ => ∃ (i : Nat) (v : D) (c : Bool), i ≤ l.length ∧ c = covB H (l.take i) t ∧ (v = .bool c ∨ (v = .ff ∧ c = false) ∨ (v = .tt ∧ c = true)) ∧
      σ = ⟨[(1, .int .i64 tool), (2, .int .i64 shown), (4, .int .i64 to), (5, .list 1 (l.map encI)), (6, .loc 0 0), (13, .int .i64 t), (14, v), (15, .int .i64 i)], [.flat false s.enc], .non⟩,
      fun σ => ((l.length : Int) - slotI 15 σ).toNat, rfl, ⟨rfl, rfl⟩, ⟨0, .ff, false, Nat.zero_le _, rfl, .inr (.inl ⟨rfl, rfl⟩), rfl⟩, ?_⟩
    rintro σ ⟨i, v, c, hi, hc, hvc, rfl⟩
    refine ⟨fun h2 => ?_, fun h2 => ?_⟩
    · have h2 : (i : Int) < l.length := by rw [← hlen]; exact of_decide_eq_true h2
      have hi' : i < l.length := by omega
      obtain ⟨m, hm⟩ : ∃ m, l[i]? = some m := ⟨_, List.getElem?_eq_getElem hi'⟩
      have hmr := hl m (List.mem_of_getElem? hm)
      have hrow : (l.map encI)[((i : Int)).toNat]? = some (encI m) := by rw [Int.toNat_natCast, List.getElem?_map, hm]; rfl
      have hnx := covB_next H hm t
      rw [← hc] at hnx
      have hme : ((l.length : Int) - ((i : Int) + 1)).toNat < ((l.length : Int) - (i : Int)).toNat := by omega
      have hw : IntKind.i64.wrap ((i : Int) + 1) = (i : Int) + 1 := wrap64 (by omega) (by omega)
      have up : c = true → (true = covB H (l.take (i + 1)) t) := fun h => by rw [hnx, h]; rfl
      rcases hvc with rfl | ⟨rfl, hc0⟩ | ⟨rfl, hc0⟩
      · refine Or.inl ⟨by kernel_rfl, ?_⟩
        refine ⟨fun h3 => ?_, fun h3 => ?_⟩
        · refine ⟨_, hw, ?_⟩
          exact ⟨⟨rfl, rfl⟩, ⟨i + 1, .tt, true, hi', up h3, .inr (.inr ⟨rfl, rfl⟩), rfl⟩, hme⟩
        · rw [h3, Bool.false_or] at hnx
          refine ⟨by omega, _, hrow, ?_⟩
          refine ⟨fun h4 => ?_, fun h4 => ?_⟩
          · rw [h4, Bool.true_and] at hnx
            refine ⟨by omega, _, hrow, ?_⟩
            refine ⟨_, rfl, _, h66 m hmr.1 hmr.2, ?_⟩
            refine ⟨_, hw, ?_⟩
            exact ⟨⟨rfl, rfl⟩, ⟨i + 1, .bool (decide (H m ≥ t)), decide (H m ≥ t), hi', hnx.symm, .inl rfl, rfl⟩, hme⟩
          · rw [h4, Bool.false_and] at hnx
            refine ⟨_, hw, ?_⟩
            exact ⟨⟨rfl, rfl⟩, ⟨i + 1, .ff, false, hi', hnx.symm, .inr (.inl ⟨rfl, rfl⟩), rfl⟩, hme⟩
      · rw [hc0, Bool.false_or] at hnx
        refine Or.inl ⟨by kernel_rfl, ?_⟩
        refine ⟨by omega, _, hrow, ?_⟩
        refine ⟨fun h4 => ?_, fun h4 => ?_⟩
        · rw [h4, Bool.true_and] at hnx
          refine ⟨by omega, _, hrow, ?_⟩
          refine ⟨_, rfl, _, h66 m hmr.1 hmr.2, ?_⟩
          refine ⟨_, hw, ?_⟩
          exact ⟨⟨rfl, rfl⟩, ⟨i + 1, .bool (decide (H m ≥ t)), decide (H m ≥ t), hi', hnx.symm, .inl rfl, rfl⟩, hme⟩
        · rw [h4, Bool.false_and] at hnx
          refine ⟨_, hw, ?_⟩
          exact ⟨⟨rfl, rfl⟩, ⟨i + 1, .ff, false, hi', hnx.symm, .inr (.inl ⟨rfl, rfl⟩), rfl⟩, hme⟩
      · refine Or.inl ⟨by kernel_rfl, ?_⟩
        refine ⟨_, hw, ?_⟩
        exact ⟨⟨rfl, rfl⟩, ⟨i + 1, .tt, true, hi', up hc0, .inr (.inr ⟨rfl, rfl⟩), rfl⟩, hme⟩
    · have h2 : ¬ (i : Int) < l.length := by rw [← hlen]; exact of_decide_eq_false h2
      have hil : l.take i = l := List.take_of_length_le (by omega)
      rw [hil] at hc
      have no : c = false → some (D.bool false) = some (D.bool (coversB H l frm to)) := fun h => by
        have : coversB H l frm to = false := by
          rw [Bool.eq_false_iff]
          intro hh
          have := coversB_iff.1 hh t (by omega) h1
          rw [← hc, h] at this
          cases this
        rw [this]
      have yes : c = true → ∀ x, frm ≤ x → x < t + 1 → covB H l x = true := fun h x h3 h4 => by
        by_cases hx : x = t
        · rw [hx, ← hc, h]
        · exact hall x h3 (by omega)
      have hme : (1000 - (t + 1)).toNat < (1000 - t).toNat := by omega
      rcases hvc with rfl | ⟨rfl, hc0⟩ | ⟨rfl, hc0⟩
      · refine ⟨fun h3 => ?_, fun h3 => ?_⟩
        · exact no (by simpa using h3)
        · refine ⟨_, wrap64 (by omega) (by omega), ?_⟩
          exact ⟨⟨rfl, rfl⟩, ⟨t + 1, j + 1, by omega, .inr (by omega), yes (by simpa using h3), rfl⟩, hme⟩
      · exact no hc0
      · refine ⟨_, wrap64 (by omega) (by omega), ?_⟩
        exact ⟨⟨rfl, rfl⟩, ⟨t + 1, j + 1, by omega, .inr (by omega), yes hc0, rfl⟩, hme⟩
  · have h1 : ¬ t ≤ to := of_decide_eq_false h1
    have : coversB H l frm to = true := coversB_iff.2 fun x h3 h4 => hall x h3 (by omega)
    rw [this]
    rfl

end Go.Proofs.Gas
