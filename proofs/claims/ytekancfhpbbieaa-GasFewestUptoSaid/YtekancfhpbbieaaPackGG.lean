/- Names, in the reference; Whether a space is valid, in the reference; Whether readings are valid, in the reference; Spans, and what readings leave: the plain law. No condition. -/
import Derived.Test.YtekancfhpbbieaaPackGB

namespace Go.Proofs.Gas
open Go.V Go.Proofs

theorem byte_lt (b : UInt8) : (b.toNat : Int) < 256 := by
  have := b.toNat_lt
  omega

theorem den74 (s : ByteArray) : DN 74 [.str s] (.bool (nameB s)) := by
  refine mk Try.func74 Try.call74 rfl rfl ?_
  have hbad : nameB s = false → some (D.bool false) = some (D.bool (nameB s)) := fun h => by rw [h]
  refine ⟨_, rfl, _, den85 s.size 1 16, ?_⟩
  refine ⟨fun h1 => ?_, fun h1 => ?_⟩
  · have h1 : (!(inR s.size 1 16)) = true := h1
    refine hbad ?_
    have : (decide (1 ≤ s.size) && decide (s.size ≤ 16)) = false := by
      simp [inR] at h1 ⊢; omega
    rw [nameB, this, Bool.and_false]
  have h1 : (!(inR s.size 1 16)) = false := h1
  have hsz : 1 ≤ s.size ∧ s.size ≤ 16 := by simp [inR] at h1; omega
  obtain ⟨n, hn⟩ : ∃ n, s.size = n + 1 := ⟨s.size - 1, by omega⟩
  have hsz2 : (decide (1 ≤ s.size) && decide (s.size ≤ 16)) = true := by simp; omega
  have hname : nameB s = nameFrom s s.size 0 := by rw [nameB, hsz2, Bool.and_true]
  have hb : s[0]? = some (s[0]'(by omega)) := by simp
  obtain ⟨b, hb'⟩ : ∃ b, s[0]'(by omega) = b := ⟨_, rfl⟩
  rw [hb'] at hb
  have hfst : nameFrom s s.size 0 = (nameC 0 b.toNat && nameFrom s n 1) := by rw [hn, nameFrom, hb]
  have hC0 : nameC 0 b.toNat = letterB b.toNat := by simp [nameC]
  refine ⟨by decide, b, hb, ?_⟩
  refine ⟨fun h2 => ?_, fun h2 => ?_⟩
  · have h2 : (b.toNat : Int) < 97 := of_decide_eq_true h2
    refine hbad ?_
    have : letterB b.toNat = false := by simp [letterB]; omega
    rw [hname, hfst, hC0, this]; rfl
  have h2 : ¬ (b.toNat : Int) < 97 := of_decide_eq_false h2
  refine ⟨by decide, b, hb, ?_⟩
  refine ⟨fun h3 => ?_, fun h3 => ?_⟩
  · have h3 : (b.toNat : Int) > 122 := of_decide_eq_true h3
    refine hbad ?_
    have : letterB b.toNat = false := by simp [letterB]; omega
    rw [hname, hfst, hC0, this]; rfl
  have h3 : ¬ (b.toNat : Int) > 122 := of_decide_eq_false h3
  have hl0 : letterB b.toNat = true := by simp [letterB]; omega
  have hst : nameB s = nameFrom s n 1 := by rw [hname, hfst, hC0, hl0]; rfl
  refine ⟨[0, 3], 0, [], fun σ => ∃ i f : Nat, 1 ≤ i ∧ i + f = s.size ∧ nameB s = nameFrom s f i ∧ σ = ⟨[(0, .str s), (3, .int .i64 i)], [], .non⟩, fun σ => (1000 - slotI 3 σ).toNat, rfl, ⟨rfl, rfl⟩, ⟨1, n, Nat.le_refl _, by omega, hst, rfl⟩, ?_⟩
  rintro σ ⟨i, f, hi, hif, hnm, rfl⟩
  refine ⟨fun h4 => ?_, fun h4 => ?_⟩
  · have h4 : (i : Int) < s.size := of_decide_eq_true h4
    have hi' : i < s.size := by omega
    obtain ⟨f, rfl⟩ : ∃ f', f = f' + 1 := ⟨f - 1, by omega⟩
    obtain ⟨c, hc⟩ : ∃ c, s[i]'hi' = c := ⟨_, rfl⟩
    have hg : s[((i : Int)).toNat]? = some c := by rw [Int.toNat_natCast, ← hc]; simp [hi']
    have hgi : s[i]? = some c := hg
    rw [nameFrom, hgi] at hnm
    have hnm : nameB s = (nameC i c.toNat && nameFrom s f (i + 1)) := hnm
    have hCi : nameC i c.toNat = (letterB c.toNat || digitB c.toNat) := by
      have : (i == 0) = false := by simp; omega
      simp [nameC, this]
    have bad : nameC i c.toNat = false → some (D.bool false) = some (D.bool (nameB s)) := fun h => hbad (by rw [hnm, h]; rfl)
    have good : nameC i c.toNat = true → (∃ i' f' : Nat, 1 ≤ i' ∧ i' + f' = s.size ∧ nameB s = nameFrom s f' i' ∧ (⟨[(0, .str s), (3, .int .i64 ((i : Int) + 1))], [], .non⟩ : St) = ⟨[(0, .str s), (3, .int .i64 i')], [], .non⟩) ∧ (1000 - ((i : Int) + 1)).toNat < (1000 - (i : Int)).toNat := fun h =>
      ⟨⟨i + 1, f, by omega, by omega, by rw [hnm, h]; rfl, rfl⟩, by omega⟩
    have neg : ∀ {x : Bool}, (!x) = true → x = false := fun {x} h => by cases x <;> trivial
    have neg' : ∀ {x : Bool}, (!x) = false → x = true := fun {x} h => by cases x <;> trivial
    have cs : ∀ x1 x2 x3 x4 : Bool, decide ((c.toNat : Int) ≥ 97) = x1 → decide ((c.toNat : Int) ≤ 122) = x2 → decide ((c.toNat : Int) ≥ 48) = x3 → decide ((c.toNat : Int) ≤ 57) = x4 → nameC i c.toNat = ((x1 && x2) || (x3 && x4)) := by
      rintro _ _ _ _ rfl rfl rfl rfl
      rw [hCi]; rfl
    refine Or.inl ⟨by kernel_rfl, ?_⟩
    refine ⟨by omega, c, hg, ?_⟩
    refine ⟨fun g1 => ?_, fun g1 => ?_⟩
    · refine ⟨by omega, c, hg, ?_⟩
      refine ⟨by omega, c, hg, ?_⟩
      refine ⟨fun g3 => ?_, fun g3 => ?_⟩
      · refine ⟨by omega, c, hg, ?_⟩
        refine ⟨fun g2 => ?_, fun g2 => ?_⟩
        · refine ⟨fun g4 => ?_, fun g4 => ?_⟩
          · exact bad (by rw [cs _ _ _ _ g1 (neg g2) g3 (neg g4)]; rfl)
          · refine ⟨_, wrap64 (by omega) (by omega), ?_⟩
            exact ⟨⟨rfl, rfl⟩, good (by rw [cs _ _ _ _ g1 (neg g2) g3 (neg' g4)]; rfl)⟩
        · refine ⟨_, wrap64 (by omega) (by omega), ?_⟩
          exact ⟨⟨rfl, rfl⟩, good (by rw [cs _ _ _ _ g1 (neg' g2) g3 rfl]; rfl)⟩
      · have g1 := of_decide_eq_true g1
        have g3 := of_decide_eq_false g3
        omega
    · refine ⟨by omega, c, hg, ?_⟩
      refine ⟨fun g3 => ?_, fun g3 => ?_⟩
      · refine ⟨by omega, c, hg, ?_⟩
        refine ⟨fun g4 => ?_, fun g4 => ?_⟩
        · exact bad (by rw [cs _ _ _ _ g1 rfl g3 (neg g4)]; rfl)
        · refine ⟨_, wrap64 (by omega) (by omega), ?_⟩
          exact ⟨⟨rfl, rfl⟩, good (by rw [cs _ _ _ _ g1 rfl g3 (neg' g4)]; rfl)⟩
      · exact bad (by rw [cs _ _ _ _ g1 rfl g3 rfl]; rfl)
  · have h4 : ¬ (i : Int) < s.size := of_decide_eq_false h4
    have hf0 : f = 0 := by omega
    subst hf0
    show some (D.bool true) = some (D.bool (nameB s))
    rw [hnm]; rfl

def encS (s : ByteArray) : List D := [.str s]
theorem den75 (l : List ByteArray) (s : ByteArray) (hl : l.length < 1000) : DN 75 [.list 1 (l.map encS), .str s] (.int .i64 (findI (fun x => sameS x s) l 0)) := by
  refine mk Try.func75 Try.call75 rfl rfl ?_
  refine ⟨[0, 1, 5], 0, [], fun σ => ∃ i : Nat, i ≤ l.length ∧ findI (fun x => sameS x s) l 0 = findI (fun x => sameS x s) (l.drop i) i ∧ σ = ⟨[(0, .list 1 (l.map encS)), (1, .str s), (5, .int .i64 i)], [], .non⟩, fun σ => (1000 - slotI 5 σ).toNat, rfl, ⟨rfl, rfl⟩, ⟨0, Nat.zero_le _, rfl, rfl⟩, ?_⟩
  rintro σ ⟨i, hi, hf, rfl⟩
  refine ⟨fun h1 => ?_, fun h1 => ?_⟩
  · have h1 := of_decide_eq_true h1
    rw [List.length_map] at h1
    have hi' : i < l.length := by omega
    have hrow : (l.map encS)[((i : Int)).toNat]? = some (encS l[i]) := by simp [hi']
    have hdrop : l.drop i = l[i] :: l.drop (i + 1) := List.drop_eq_getElem_cons hi'
    refine ⟨by omega, _, hrow, ?_⟩
    refine ⟨fun h2 => ?_, fun h2 => ?_⟩
    · have h2 : sameS l[i] s = true := h2
      show some (D.int .i64 (i : Int)) = some (D.int .i64 (findI (fun x => sameS x s) l 0))
      rw [hf, hdrop, findI, h2]
    · have h2 : sameS l[i] s = false := h2
      refine ⟨_, wrap64 (by omega) (by omega), ?_⟩
      refine ⟨⟨rfl, rfl⟩, ⟨i + 1, hi', ?_, rfl⟩, ?_⟩
      · rw [hf, hdrop, findI, h2]; rfl
      · show (1000 - ((i : Int) + 1)).toNat < (1000 - (i : Int)).toNat
        omega
  · have h1 := of_decide_eq_false h1
    rw [List.length_map] at h1
    show some (D.int .i64 (-1)) = some (D.int .i64 (findI (fun x => sameS x s) l 0))
    rw [hf, List.drop_of_length_le (by omega)]
    rfl

theorem den47 (ts : List Tl) (s : ByteArray) (hl : ts.length < 1000) : DN 47 [.str s, .list 1 ((ts.map (·.1)).map encS)] (.int .i64 (freshE ts s)) := by
  refine mk Try.func47 Try.call47 rfl rfl ?_
  have hany := findI_any (fun x => sameS x s) (ts.map (·.1)) 0 (Int.le_refl 0)
  rw [List.any_map] at hany
  refine ⟨_, rfl, _, den74 s, ?_⟩
  refine ⟨fun h1 => ?_, fun h1 => ?_⟩
  · have h1 : nameB s = false := by simpa using h1
    show some (D.int .i64 6) = some (D.int .i64 (freshE ts s))
    rw [freshE, h1]
  have h1 : nameB s = true := by simpa using h1
  refine ⟨_, rfl, _, den75 (ts.map (·.1)) s (by simpa using hl), ?_⟩
  refine ⟨fun h2 => ?_, fun h2 => ?_⟩
  · have h2 : (ts.any fun x => sameS x.1 s) = true := hany.symm.trans h2
    show some (D.int .i64 5) = some (D.int .i64 (freshE ts s))
    rw [freshE, h1, h2]
  · have h2 : (ts.any fun x => sameS x.1 s) = false := hany.symm.trans h2
    show some (D.int .i64 0) = some (D.int .i64 (freshE ts s))
    rw [freshE, h1, h2]

end Go.Proofs.Gas

namespace Go.Proofs.Gas
open Go.V Go.Proofs

theorem not_inR (n lo hi : Int) : (!(inR n lo hi)) = outB lo hi n := by
  unfold inR outB
  by_cases h1 : n < lo
  · have : ¬ n ≥ lo := by omega
    simp [h1, this]
  · have : n ≥ lo := by omega
    by_cases h2 : n > hi
    · have : ¬ n ≤ hi := by omega
      simp [h2, this]
    · have : n ≤ hi := by omega
      simp [h1, h2, this]; omega
theorem outS_any (lo hi : Int) (b : Sp) : outS lo hi b = [b.lo, b.hi].any (outB lo hi) := by
  unfold outS
  rw [not_inR, not_inR]
  simp

theorem plan_eq (s : Space) : planE s = match s.badA with | true => 7 | false => match s.badB with | true => 2 | false => 0 := by
  have hA : s.badA = ((outS 0 200 s.start || outB 0 200 s.limit) || (outS (-20) 20 s.rise || outS (-20) 20 s.blow)) := by
    unfold Space.badA
    rw [outS_any, outS_any, outS_any]
    simp [Bool.or_assoc]
  have hB : s.badB = (badS s.start || (badS s.rise || badS s.blow)) := rfl
  rw [hA, hB]
  unfold planE spreadE
  rw [not_inR]
  simp only [List.any_cons, List.any_nil, Bool.or_false]
  cases outS 0 200 s.start <;> cases outB 0 200 s.limit <;> cases outS (-20) 20 s.rise <;> cases outS (-20) 20 s.blow <;> cases badS s.start <;> cases badS s.rise <;> cases badS s.blow <;> rfl

theorem spread1 (lo hi : Int) (b : Sp) : spreadE lo hi [b] = match [b.lo, b.hi].any (outB lo hi) with | true => 7 | false => match decide (b.lo > b.hi) with | true => 2 | false => 0 := by
  unfold spreadE
  simp only [List.any_cons, List.any_nil, Bool.or_false, outS_any]
  rfl

theorem den16 (s : Space) : DN 16 [.agg s.enc] (tup3 s.check) := by
  refine mk Try.func16 Try.call16 rfl rfl ?_
  have fin : ∀ {p q : Int × Int × Int}, p = q → some (tup3 p) = some (tup3 q) := fun h => by rw [h]
  refine ⟨_, rfl, _, den44 s, ?_⟩
  have hpl := plan_eq s
  cases hA : s.badA with
  | true =>
    rw [hA] at hpl
    rw [hpl]
    have hc : s.check = (1, 0, 7) := by rw [Space.check, hA]
    exact ⟨fun _ => fin hc.symm, fun h => nomatch h⟩
  | false =>
  cases hB : s.badB with
  | true =>
    rw [hA, hB] at hpl
    rw [hpl]
    have hc : s.check = (1, 0, 2) := by rw [Space.check, hA, hB]
    exact ⟨fun _ => fin hc.symm, fun h => nomatch h⟩
  | false =>
  rw [hA, hB] at hpl
  rw [hpl]
  refine ⟨(fun h => nomatch h), fun _ => ?_⟩
  have hC : s.check = s.check2 := by rw [Space.check, hA, hB]
  have hlm : ((s.blows.map Sp.enc).length : Int) = s.blows.length := by simp
  refine ⟨fun h6 => ?_, fun h6 => ?_⟩
  · have h6 : decide ((s.blows.length : Int) > 4) = true := by rw [← hlm]; exact h6
    exact fin (p := (2, 0, 3)) (by rw [hC, Space.check2, h6])
  have h6 : decide ((s.blows.length : Int) > 4) = false := by rw [← hlm]; exact h6
  have hlen : s.blows.length ≤ 4 := by have := of_decide_eq_false h6; omega
  have hD : ∀ r, blowsE s.blows 0 (-1) = some r → s.check = (2, r) := fun r h => by rw [hC, Space.check2, h6, h]
  have hD0 : blowsE s.blows 0 (-1) = none → s.check = s.check3 := fun h => by rw [hC, Space.check2, h6, h]
  refine ⟨[1, 6], 1, [], fun σ => ∃ (i : Nat) (last : Int), i ≤ s.blows.length ∧ blowsE s.blows 0 (-1) = blowsE (s.blows.drop i) i last ∧ (i = 0 → last = -1) ∧ (∀ j, i = j + 1 → (s.blows[j]?).map (·.hi) = some last) ∧
      σ = ⟨[(1, .loc 0 0), (6, .int .i64 i)], [.flat false s.enc], .non⟩, fun σ => (1000 - slotI 6 σ).toNat, rfl, ⟨rfl, rfl⟩, ⟨0, -1, Nat.zero_le _, rfl, fun _ => rfl, fun j h => (by omega), rfl⟩, ?_⟩
  rintro σ ⟨i, last, hi', hf, hl0, hl1, rfl⟩
  refine ⟨fun h1 => ?_, fun h1 => ?_⟩
  · have h1 := of_decide_eq_true h1
    rw [List.length_map] at h1
    have hi' : i < s.blows.length := by omega
    obtain ⟨b, hbb⟩ : ∃ b, s.blows[i] = b := ⟨_, rfl⟩
    have hrow : (s.blows.map Sp.enc)[((i : Int)).toNat]? = some (b.enc) := by simp [hi', hbb]
    have hdrop : s.blows.drop i = b :: s.blows.drop (i + 1) := by rw [← hbb]; exact List.drop_eq_getElem_cons hi'
    rw [hdrop, blowsE] at hf
    have hnext : ∀ j, i + 1 = j + 1 → (s.blows[j]?).map (·.hi) = some b.hi := fun j hj => by
      obtain rfl : i = j := by omega
      rw [List.getElem?_eq_getElem hi', hbb]; rfl
    refine ⟨by omega, _, hrow, ?_⟩
    refine ⟨_, rfl, _, den45 b 0 60, ?_⟩
    have hsp := spread1 0 60 b
    have good : spreadE 0 60 [b] = 0 → decide (b.lo ≤ last) = false → blowsE s.blows 0 (-1) = blowsE (s.blows.drop (i + 1)) ((i : Int) + 1) b.hi := fun g1 g2 => by
      rw [hsp] at g1
      cases hx : [b.lo, b.hi].any (outB 0 60) with
      | true => rw [hx] at g1; cases g1
      | false =>
        rw [hx] at g1 hf
        cases hy : decide (b.lo > b.hi) with
        | true => rw [hy] at g1; cases g1
        | false => rw [hy, g2] at hf; exact hf
    have bad2 : spreadE 0 60 [b] = 0 → decide (b.lo ≤ last) = true → s.check = (2, (i : Int), 2) := fun g1 g2 => by
      rw [hsp] at g1
      cases hx : [b.lo, b.hi].any (outB 0 60) with
      | true => rw [hx] at g1; cases g1
      | false =>
        rw [hx] at g1 hf
        cases hy : decide (b.lo > b.hi) with
        | true => rw [hy] at g1; cases g1
        | false => rw [hy, g2] at hf; exact hD _ hf
    have bad : spreadE 0 60 [b] ≠ 0 → s.check = (2, (i : Int), spreadE 0 60 [b]) := fun g1 => by
      rw [hsp] at g1 ⊢
      cases hx : [b.lo, b.hi].any (outB 0 60) with
      | true => rw [hx] at hf; exact hD _ hf
      | false =>
        rw [hx] at g1 hf
        cases hy : decide (b.lo > b.hi) with
        | true => rw [hy] at hf; exact hD _ hf
        | false => rw [hy] at g1; exact absurd rfl g1
    have hlast : i = 0 → [b.lo, b.hi].any (outB 0 60) = false → decide (b.lo ≤ last) = false := fun h0 hx => by
      rw [hl0 h0]
      simp [outB] at hx
      apply decide_eq_false; omega
    have hsp0 : spreadE 0 60 [b] = 0 → [b.lo, b.hi].any (outB 0 60) = false := fun g1 => by
      rw [hsp] at g1
      cases hx : [b.lo, b.hi].any (outB 0 60) with
      | true => rw [hx] at g1; cases g1
      | false => rfl
    obtain ⟨e, hee⟩ : ∃ e, spreadE 0 60 [b] = e := ⟨_, rfl⟩
    rw [hee] at good bad2 bad hsp0 ⊢
    refine Or.inl ⟨by kernel_rfl, ?_⟩
    refine ⟨fun h2 => ?_, fun h2 => ?_⟩
    · have h2 : e = 0 := by simpa using h2
      have hx := hsp0 h2
      refine ⟨fun h3 => ?_, fun h3 => ?_⟩
      · have h3 : (i : Int) > 0 := of_decide_eq_true h3
        obtain ⟨j, rfl⟩ : ∃ j, i = j + 1 := ⟨i - 1, by omega⟩
        have hj := hl1 j rfl
        have hjl : j < s.blows.length := by omega
        rw [List.getElem?_eq_getElem hjl] at hj
        have hj : s.blows[j].hi = last := by simpa using hj
        have hrow2 : (s.blows.map Sp.enc)[((j : Int)).toNat]? = some (s.blows[j].enc) := by simp [hjl]
        refine ⟨by omega, _, hrow, ?_⟩
        refine ⟨(j : Int), wrap64 (by omega) (by omega) |>.trans (by omega), ?_⟩
        refine ⟨by omega, _, hrow2, ?_⟩
        refine ⟨fun h4 => ?_, fun h4 => ?_⟩
        · have h4 : decide (b.lo ≤ last) = true := by rw [← hj]; exact h4
          refine ⟨fun _ => fin (bad2 h2 h4).symm, fun h => nomatch h⟩
        · have h4 : decide (b.lo ≤ last) = false := by rw [← hj]; exact h4
          refine ⟨fun h5 => absurd h2 (by simpa using h5), fun _ => ?_⟩
          refine ⟨_, wrap64 (by omega) (by omega), ?_⟩
          exact ⟨⟨rfl, rfl⟩, ⟨j + 1 + 1, b.hi, hi', good h2 h4, fun h => (by omega), hnext, rfl⟩, by show (1000 - (((j + 1 : Nat) : Int) + 1)).toNat < (1000 - ((j + 1 : Nat) : Int)).toNat; omega⟩
      · have h3 : ¬ (i : Int) > 0 := of_decide_eq_false h3
        have h4 := hlast (by omega) hx
        refine ⟨fun h5 => absurd h2 (by simpa using h5), fun _ => ?_⟩
        refine ⟨_, wrap64 (by omega) (by omega), ?_⟩
        exact ⟨⟨rfl, rfl⟩, ⟨i + 1, b.hi, hi', good h2 h4, fun h => (by omega), hnext, rfl⟩, by show (1000 - ((i : Int) + 1)).toNat < (1000 - (i : Int)).toNat; omega⟩
    · have h2 : e ≠ 0 := by simpa using h2
      refine ⟨fun _ => fin (bad h2).symm, fun h5 => absurd (by simpa using h5) h2⟩
  have h1 := of_decide_eq_false h1
  rw [List.length_map] at h1
  have hn : s.blows.drop i = [] := List.drop_of_length_le (by omega)
  rw [hn] at hf
  have hE := hD0 hf
  have hlt : ((s.tools.map encT).length : Int) = s.tools.length := by simp
  refine ⟨_, rfl, _, den46 ((s.tools.map encT).length : Int) 1 3, ?_⟩
  refine ⟨fun h7 => ?_, fun h7 => ?_⟩
  · have h7 : [(s.tools.length : Int)].any (outB 1 3) = true := by
      have : (!(inR ((s.tools.map encT).length : Int) 1 3)) = true := h7
      rw [hlt, not_inR] at this; simpa using this
    exact fin (p := (3, 0, 3)) (by rw [hE, Space.check3, h7])
  have h7 : [(s.tools.length : Int)].any (outB 1 3) = false := by
    have : (!(inR ((s.tools.map encT).length : Int) 1 3)) = false := h7
    rw [hlt, not_inR] at this; simpa using this
  have htl : s.tools.length ≤ 3 := by
    simp [outB] at h7; omega
  have hF : ∀ r, toolsE [] s.tools 0 = some r → s.check = (3, r) := fun r h => by rw [hE, Space.check3, h7, h]
  have hF0 : toolsE [] s.tools 0 = none → s.check = (0, 0, 0) := fun h => by rw [hE, Space.check3, h7, h]
  refine ⟨[1, 7, 8], 1, [(.slot 7, 1)], fun σ => ∃ (i g : Nat), i ≤ s.tools.length ∧ toolsE [] s.tools 0 = toolsE (s.tools.take i) (s.tools.drop i) i ∧
      σ = ⟨[(1, .loc 0 0), (7, .sl 1 g 0 (((s.tools.take i).map (·.1)).map encS).length), (8, .int .i64 i)], [.flat false s.enc, .rows false g 1 (((s.tools.take i).map (·.1)).map encS)], .non⟩, fun σ => (1000 - slotI 8 σ).toNat, rfl, ⟨rfl, rfl⟩, ⟨0, 0, Nat.zero_le _, rfl, rfl⟩, ?_⟩
  rintro σ ⟨i, g, hi', hf, rfl⟩
  refine ⟨fun h1 => ?_, fun h1 => ?_⟩
  · have h1 := of_decide_eq_true h1
    rw [List.length_map] at h1
    have hi' : i < s.tools.length := by omega
    obtain ⟨x, hx⟩ : ∃ x, s.tools[i] = x := ⟨_, rfl⟩
    have hrow : (s.tools.map encT)[((i : Int)).toNat]? = some (encT x) := by simp [hi', hx]
    have hdrop : s.tools.drop i = x :: s.tools.drop (i + 1) := by rw [← hx]; exact List.drop_eq_getElem_cons hi'
    have htake : s.tools.take (i + 1) = s.tools.take i ++ [x] := by rw [← hx]; simp
    rw [hdrop, toolsE] at hf
    have next : toolE (s.tools.take i) x = 0 → toolsE [] s.tools 0 = toolsE (s.tools.take (i + 1)) (s.tools.drop (i + 1)) ((i : Int) + 1) := fun h => by
      rw [hf, h, htake]; rfl
    have bad : toolE (s.tools.take i) x ≠ 0 → s.check = (3, (i : Int), toolE (s.tools.take i) x) := fun h => by
      refine hF _ ?_
      have : (toolE (s.tools.take i) x != 0) = true := by simpa using h
      rw [hf, this]
    have hcat : ((s.tools.take i).map (·.1)).map encS ++ [[D.str x.1]] = ((s.tools.take (i + 1)).map (·.1)).map encS := by rw [htake]; simp [encS]
    have hlt : (((s.tools.take i).map (·.1)).map encS).length ≤ 3 := by simp; omega
    obtain ⟨e, hee⟩ : ∃ e, freshE (s.tools.take i) x.1 = e := ⟨_, rfl⟩
    have h47 := den47 (s.tools.take i) x.1 (by rw [List.length_take]; omega)
    rw [hee] at h47
    refine ⟨by omega, _, hrow, ?_⟩
    refine ⟨_, mapO_cons rfl (mapO_cons (reify_sl rfl rfl) rfl), _, h47, ?_⟩
    refine ⟨by omega, _, hrow, ?_⟩
    refine ⟨trivial, iff' (by rw [beq_self]; rfl) ⟨rfl, ?_, _, hcat, ?_⟩⟩
    · show (_ + 1) * 16 ≤ mostBytes; unfold mostBytes; omega
    refine ⟨fun h2 => ?_, fun h2 => ?_⟩
    · have h0 : e = 0 := by simpa using h2
      subst h0
      refine ⟨by omega, _, hrow, ?_⟩
      refine ⟨_, rfl, _, den46 x.2 0 50, ?_⟩
      refine ⟨fun h3 => ?_, fun h3 => ?_⟩
      · have h3 : [x.2].any (outB 0 50) = true := by
          have : (!(inR x.2 0 50)) = true := h3
          rw [not_inR] at this; simpa using this
        have ht : toolE (s.tools.take i) x = 7 := by rw [toolE, hee, h3]; rfl
        have hb := bad (by rw [ht]; decide)
        rw [ht] at hb
        exact ⟨fun _ => fin hb.symm, fun h4 => absurd h4 (by decide)⟩
      · have h3 : [x.2].any (outB 0 50) = false := by
          have : (!(inR x.2 0 50)) = false := h3
          rw [not_inR] at this; simpa using this
        have ht : toolE (s.tools.take i) x = 0 := by rw [toolE, hee, h3]; rfl
        refine ⟨fun h4 => absurd h4 (by decide), fun _ => ?_⟩
        refine ⟨_, wrap64 (by omega) (by omega), ?_⟩
        exact ⟨⟨rfl, rfl⟩, ⟨i + 1, g + 1, hi', next ht, rfl⟩, by show (1000 - ((i : Int) + 1)).toNat < (1000 - (i : Int)).toNat; omega⟩
    · have h0 : ¬ e = 0 := by simpa using h2
      have ht : toolE (s.tools.take i) x = e := by
        have h2 : (e == 0) = false := h2
        rw [toolE, hee, h2]
      have hb := bad (by rw [ht]; exact h0)
      rw [ht] at hb
      exact ⟨fun _ => fin hb.symm, fun h4 => absurd (by simpa using h4) h0⟩
  have h1 := of_decide_eq_false h1
  rw [List.length_map] at h1
  have hn : s.tools.drop i = [] := List.drop_of_length_le (by omega)
  rw [hn] at hf
  exact fin (hF0 hf).symm

end Go.Proofs.Gas

namespace Go.Proofs.Gas
open Go.V Go.Proofs

def Space.readsE (s : Space) : List Rd → Int
  | [] => 0
  | r :: l => match s.readBad r != 0 with
    | true => s.readBad r
    | false => s.readsE l
/-- The error of a space and readings. -/
def Space.readE (s : Space) (l : List Rd) : Int := match s.err0 != 0 with
  | true => s.err0
  | false => match decide ((l.length : Int) > 12) with
    | true => 3
    | false => s.readsE l

theorem reads_err (s : Space) : ∀ (l : List Rd) (m : Seen), (s.reads l m).2 = s.readsE l
  | [], _ => rfl
  | r :: l, m => by
    unfold Space.reads Space.readsE
    cases s.readBad r != 0 with
    | true => rfl
    | false => exact reads_err s l _

theorem readE_zero {s : Space} {l : List Rd} : s.readE l = 0 ↔ s.Valid ∧ l.length ≤ 12 ∧ s.readsE l = 0 := by
  unfold Space.readE
  cases h1 : s.err0 != 0 with
  | true =>
    have h1 : ¬ s.err0 = 0 := by simpa using h1
    simp only
    exact ⟨fun h => absurd h h1, fun h => absurd (s.valid_iff.2 h.1) h1⟩
  | false =>
    have h1 : s.err0 = 0 := by simpa using h1
    have hv := s.valid_iff.1 h1
    cases h2 : decide ((l.length : Int) > 12) with
    | true =>
      have h2 := of_decide_eq_true h2
      simp only
      exact ⟨fun h => by omega, fun h => by omega⟩
    | false =>
      have h2 := of_decide_eq_false h2
      simp only
      exact ⟨fun h => ⟨hv, by omega, h⟩, fun h => h.2.2⟩

theorem readsE_zero {s : Space} : ∀ {l : List Rd}, s.readsE l = 0 ↔ ∀ r ∈ l, s.readBad r = 0
  | [] => by simp [Space.readsE]
  | r :: l => by
    have ih := readsE_zero (s := s) (l := l)
    unfold Space.readsE
    cases h : s.readBad r != 0 with
    | true =>
      have h : ¬ s.readBad r = 0 := by simpa using h
      simp only
      exact ⟨fun e => absurd e h, fun e => absurd (e r (by simp)) h⟩
    | false =>
      have h : s.readBad r = 0 := by simpa using h
      simp only [ih, List.mem_cons, forall_eq_or_imp, h, true_and]

theorem den36 (s : Space) (l : List Rd) : DN 36 [.agg s.enc, .list 3 (l.map Rd.enc)] (.int .i64 (s.readE l)) := by
  refine mk Try.func36 Try.call36 rfl rfl ?_
  refine ⟨_, rfl, _, den16 s, ?_⟩
  have hlm : ((l.map Rd.enc).length : Int) = l.length := by simp
  refine ⟨fun h1 => ?_, fun h1 => ?_⟩
  · have h1 : (s.err0 == 0) = true := h1
    have h1' : s.err0 = 0 := by simpa using h1
    have h1b : (s.err0 != 0) = false := by simpa using h1'
    have hv := s.valid_iff.1 h1'
    refine ⟨fun h2 => ?_, fun h2 => ?_⟩
    · have h2 : decide ((l.length : Int) > 12) = true := by rw [← hlm]; exact h2
      have hr : s.readE l = 3 := by unfold Space.readE; simp only [h1b, h2]
      rw [hr]
      refine ⟨[1, 7, 8], 0, [], fun σ => σ = ⟨[(1, .list 3 (l.map Rd.enc)), (7, .int .i64 3), (8, .int .i64 0)], [], .non⟩, fun σ => 0, rfl, ⟨rfl, rfl⟩, rfl, ?_⟩
      rintro σ rfl
      refine ⟨fun h3 => ?_, fun h3 => rfl⟩
      exact ⟨fun h4 => absurd h4 (by decide), fun _ => rfl⟩
    · have h2 : decide ((l.length : Int) > 12) = false := by rw [← hlm]; exact h2
      have hlen : l.length ≤ 12 := by have := of_decide_eq_false h2; omega
      have hr : s.readE l = s.readsE l := by unfold Space.readE; simp only [h1b, h2]
      rw [hr]
      have hc0 : s.check.2.2 = 0 := h1'
      rw [hc0]
      refine ⟨[1, 2, 7, 8], 1, [], fun σ => ∃ (i : Nat) (e : Int), i ≤ l.length ∧ (e = 0 → s.readsE l = s.readsE (l.drop i)) ∧ (e ≠ 0 → s.readsE l = e) ∧
        σ = ⟨[(1, .list 3 (l.map Rd.enc)), (2, .loc 0 0), (7, .int .i64 e), (8, .int .i64 i)], [.flat false s.enc], .non⟩, fun σ => (1000 - slotI 8 σ).toNat, rfl, ⟨rfl, rfl⟩, ⟨0, 0, Nat.zero_le _, fun _ => rfl, fun h => absurd rfl h, rfl⟩, ?_⟩
      rintro σ ⟨i, e, hi, he0, he1, rfl⟩
      refine ⟨fun h3 => ?_, fun h3 => ?_⟩
      · have h3 := of_decide_eq_true h3
        rw [List.length_map] at h3
        have hi' : i < l.length := by omega
        refine ⟨fun h4 => ?_, fun h4 => ?_⟩
        · have h4 : e = 0 := by simpa using h4
          obtain ⟨r, hrr⟩ : ∃ r, l[i] = r := ⟨_, rfl⟩
          have hrow : (l.map Rd.enc)[((i : Int)).toNat]? = some (r.enc) := by simp [hi', hrr]
          have hdrop : l.drop i = r :: l.drop (i + 1) := by rw [← hrr]; exact List.drop_eq_getElem_cons hi'
          have hd := he0 h4
          rw [hdrop, Space.readsE] at hd
          have hlt : ((s.tools.map encT).length : Int) = s.tools.length := by simp
          refine Or.inl ⟨by kernel_rfl, ?_⟩
          refine ⟨by omega, _, hrow, ?_⟩
          refine ⟨(s.tools.length : Int) - 1, ?_, ?_⟩
          · show IntKind.i64.wrap (((s.tools.map encT).length : Int) - 1) = _
            have := hv.tlen
            rw [hlt, wrap64 (by omega) (by omega)]
          refine ⟨_, rfl, _, den46 r.tool 0 ((s.tools.length : Int) - 1), ?_⟩
          have e1 : (!(inR r.tool 0 ((s.tools.length : Int) - 1))) = [r.tool].any (outB 0 ((s.tools.length : Int) - 1)) := by rw [not_inR]; simp
          have e2 : (!(inR r.minute 0 60)) = [r.minute].any (outB 0 60) := by rw [not_inR]; simp
          have e3 : (!(inR r.shown (-50) 250)) = [r.shown].any (outB (-50) 250) := by rw [not_inR]; simp
          have bad : ∀ v : Int, v ≠ 0 → s.readBad r = v → s.readsE l = v := fun v hv0 h => by
            have : (s.readBad r != 0) = true := by rw [h]; simpa using hv0
            rw [this, h] at hd
            exact hd
          refine ⟨fun h5 => ?_, fun h5 => ?_⟩
          · have h5 := e1.symm.trans h5
            have hb := bad 4 (by decide) (by unfold Space.readBad; simp only [h5])
            refine ⟨_, wrap64 (by omega) (by omega), ?_⟩
            exact ⟨⟨rfl, rfl⟩, ⟨i + 1, 4, hi', fun h => absurd h (by decide), fun _ => hb, rfl⟩, by show (1000 - ((i : Int) + 1)).toNat < (1000 - (i : Int)).toNat; omega⟩
          have h5 := e1.symm.trans h5
          refine ⟨by omega, _, hrow, ?_⟩
          refine ⟨_, rfl, _, den46 r.minute 0 60, ?_⟩
          refine ⟨fun h6 => ?_, fun h6 => ?_⟩
          · have h6 := e2.symm.trans h6
            have hb := bad 7 (by decide) (by unfold Space.readBad; simp only [h5, h6]; rfl)
            refine ⟨_, wrap64 (by omega) (by omega), ?_⟩
            exact ⟨⟨rfl, rfl⟩, ⟨i + 1, 7, hi', fun h => absurd h (by decide), fun _ => hb, rfl⟩, by show (1000 - ((i : Int) + 1)).toNat < (1000 - (i : Int)).toNat; omega⟩
          have h6 := e2.symm.trans h6
          refine ⟨by omega, _, hrow, ?_⟩
          refine ⟨_, rfl, _, den46 r.shown (-50) 250, ?_⟩
          refine ⟨fun h7 => ?_, fun h7 => ?_⟩
          · have h7 := e3.symm.trans h7
            have hb := bad 7 (by decide) (by unfold Space.readBad; simp only [h5, h6, h7]; rfl)
            refine ⟨_, wrap64 (by omega) (by omega), ?_⟩
            exact ⟨⟨rfl, rfl⟩, ⟨i + 1, 7, hi', fun h => absurd h (by decide), fun _ => hb, rfl⟩, by show (1000 - ((i : Int) + 1)).toNat < (1000 - (i : Int)).toNat; omega⟩
          have h7 := e3.symm.trans h7
          have hb : s.readBad r = 0 := by unfold Space.readBad; simp only [h5, h6, h7]; rfl
          rw [hb] at hd
          refine ⟨_, wrap64 (by omega) (by omega), ?_⟩
          exact ⟨⟨rfl, rfl⟩, ⟨i + 1, e, hi', fun _ => hd, fun h => absurd h4 h, rfl⟩, by show (1000 - ((i : Int) + 1)).toNat < (1000 - (i : Int)).toNat; omega⟩
        · have h4 : e ≠ 0 := by simpa using h4
          show some (D.int .i64 e) = some (D.int .i64 (s.readsE l))
          rw [he1 h4]
      · have h3 := of_decide_eq_false h3
        rw [List.length_map] at h3
        show some (D.int .i64 e) = some (D.int .i64 (s.readsE l))
        by_cases h4 : e = 0
        · rw [he0 h4, List.drop_of_length_le (by omega), h4]; rfl
        · rw [he1 h4]
  · have h1 : (s.err0 == 0) = false := h1
    have h1' : s.err0 ≠ 0 := by simpa using h1
    have h1b : (s.err0 != 0) = true := by simpa using h1'
    have hr : s.readE l = s.err0 := by unfold Space.readE; simp only [h1b]
    rw [hr]
    refine ⟨[1, 7, 8], 0, [], fun σ => σ = ⟨[(1, .list 3 (l.map Rd.enc)), (7, .int .i64 s.err0), (8, .int .i64 0)], [], .non⟩, fun σ => 0, rfl, ⟨rfl, rfl⟩, rfl, ?_⟩
    rintro σ rfl
    refine ⟨fun h3 => ?_, fun h3 => rfl⟩
    exact ⟨fun h4 => absurd (by simpa using h4) h1', fun _ => rfl⟩

end Go.Proofs.Gas

namespace Go.Proofs.Gas
open Go.V Go.Proofs

theorem inB_iff {n : Int} {a : Sp} : inB n a = true ↔ a.lo ≤ n ∧ n ≤ a.hi := by simp [inB]
theorem inB_none (n : Int) : inB n none' = false := by
  cases h : inB n none' with
  | false => rfl
  | true =>
    have := inB_iff.1 h
    simp [none'] at this
    omega

theorem mem_both (n : Int) (a b : Sp) : inB n (both a b) = (inB n a && inB n b) := by
  unfold both
  split
  · rename_i h
    rw [inB_none]
    rcases h with h | h | h
    · rw [h, inB_none]; rfl
    · rw [h, inB_none, Bool.and_false]
    · cases h1 : inB n a with
      | false => rfl
      | true =>
        cases h2 : inB n b with
        | false => rfl
        | true =>
          have := inB_iff.1 h1
          have := inB_iff.1 h2
          omega
  · rw [Bool.eq_iff_iff, Bool.and_eq_true, inB_iff, inB_iff, inB_iff]
    simp only
    omega

/-- A span that is not empty, or the empty one. -/
def Sp.canon (a : Sp) : Prop := a.lo ≤ a.hi ∨ a = none'
theorem both_canon (a b : Sp) : (both a b).canon := by
  unfold both
  split
  · exact .inr rfl
  · rename_i h
    refine .inl ?_
    simp only
    have : ¬ max a.lo b.lo > min a.hi b.hi := fun e => h (.inr (.inr e))
    omega
/-- Two spans with the same numbers. -/
theorem canon_ext {a b : Sp} (ha : a.canon) (hb : b.canon) (h : ∀ n, inB n a = inB n b) : a = b := by
  have key : ∀ {a b : Sp}, a.lo ≤ a.hi → (∀ n, inB n a = inB n b) → b.lo ≤ a.lo ∧ a.hi ≤ b.hi := by
    intro a b ha h
    have h1 := h a.lo
    have h2 := h a.hi
    rw [inB_iff.2 ⟨Int.le_refl _, ha⟩] at h1
    rw [inB_iff.2 ⟨ha, Int.le_refl _⟩] at h2
    have := inB_iff.1 h1.symm
    have := inB_iff.1 h2.symm
    omega
  rcases ha with ha | ha
  · rcases hb with hb | hb
    · have h1 := key ha h
      have h2 := key hb fun n => (h n).symm
      cases a; cases b
      simp only [Sp.mk.injEq] at *
      omega
    · have h1 := h a.lo
      rw [inB_iff.2 ⟨Int.le_refl _, ha⟩, hb, inB_none] at h1
      cases h1
  · rcases hb with hb | hb
    · have h1 := h b.lo
      rw [inB_iff.2 ⟨Int.le_refl _, hb⟩, ha, inB_none] at h1
      cases h1
    · rw [ha, hb]

theorem fits_in (s : Space) (t n : Int) (r : Rd) : s.fits t n r = (if t = r.minute then inB n ⟨r.shown - s.err r.tool, r.shown + s.err r.tool⟩ else true) := by
  unfold Space.fits
  by_cases h : t = r.minute
  · have : (r.minute == t) = true := by simp [h]
    rw [if_pos h, this, Bool.true_and, Bool.not_not, Bool.eq_iff_iff, inB_iff]
    simp only [inR, Bool.and_eq_true, decide_eq_true_eq]
    omega
  · have : (r.minute == t) = false := by simp; omega
    rw [if_neg h, this]; rfl

theorem left_take (s : Space) (m : Seen) (r : Rd) (t n : Int) : inB n (left (s.take m r) t) = (inB n (left m t) && s.fits t n r) := by
  unfold Space.take
  rw [left_put, fits_in]
  by_cases h : t = r.minute
  · rw [if_pos h, if_pos h, mem_both, h]
  · rw [if_neg h, if_neg h, Bool.and_true]

theorem left_reads (s : Space) (t n : Int) : ∀ (l : List Rd) (m : Seen), (∀ r ∈ l, s.readBad r = 0) → inB n (left (s.reads l m).1 t) = (inB n (left m t) && s.agrees l t n)
  | [], m, _ => by simp [Space.reads, Space.agrees]
  | r :: l, m, h => by
    have hr : (s.readBad r != 0) = false := by simpa using h r (by simp)
    unfold Space.reads
    simp only [hr]
    rw [left_reads s t n l _ fun r hr => h r (by simp [hr]), left_take, Space.agrees, Space.agrees, List.all_cons, Bool.and_assoc]

theorem left_seen {s : Space} {l : List Rd} (h : ∀ r ∈ l, s.readBad r = 0) (t n : Int) (hn : 0 ≤ n ∧ n ≤ 200) : inB n (left (s.seen l) t) = s.agrees l t n := by
  unfold Space.seen
  rw [left_reads s t n l [] h, left_nil, inB_iff.2 hn, Bool.true_and]

/-- All that readings leave is canonical, and a level. -/
def Seen.ok (m : Seen) : Prop := ∀ t, (left m t).canon ∧ ∀ n, inB n (left m t) = true → 0 ≤ n ∧ n ≤ 200
theorem reads_ok (s : Space) : ∀ (l : List Rd) (m : Seen), m.ok → (s.reads l m).1.ok
  | [], m, h => h
  | r :: l, m, h => by
    unfold Space.reads
    cases s.readBad r != 0 with
    | true => exact h
    | false =>
      refine reads_ok s l _ fun t => ⟨?_, fun n hn => ?_⟩
      · unfold Space.take
        rw [left_put]
        split
        · exact both_canon _ _
        · exact (h t).1
      · rw [left_take, Bool.and_eq_true] at hn
        exact (h t).2 n hn.1
theorem nil_ok : Seen.ok [] := fun t => by
  rw [left_nil]
  exact ⟨.inl (by decide), fun n hn => inB_iff.1 hn⟩
theorem seen_ok (s : Space) (l : List Rd) : (s.seen l).ok := reads_ok s l [] nil_ok

theorem riseAt_le {s : Space} (hv : s.Valid) (t : Int) : -20 ≤ (s.riseAt t).lo ∧ (s.riseAt t).lo ≤ (s.riseAt t).hi ∧ (s.riseAt t).hi ≤ 20 := by
  unfold Space.riseAt
  split
  · exact hv.blow
  · exact hv.rise

/-- A canonical span of levels. -/
def Sp.lev (x : Sp) : Prop := x = none' ∨ (0 ≤ x.lo ∧ x.lo ≤ x.hi ∧ x.hi ≤ 200)
theorem Sp.lev.canon {x : Sp} (h : x.lev) : x.canon := h.elim .inr fun h => .inl h.2.1
theorem both_lev {a b : Sp} (ha : a.lev) : (both a b).lev := by
  unfold both
  split
  · exact .inl rfl
  · rename_i h
    have h1 : ¬ max a.lo b.lo > min a.hi b.hi := fun e => h (.inr (.inr e))
    have h2 : ¬ a = none' := fun e => h (.inl e)
    rcases ha with ha | ha
    · exact absurd ha h2
    · refine .inr ?_
      simp only
      omega
theorem later_lev {s : Space} (hv : s.Valid) {x : Sp} (hx : x.lev) (t : Int) : (s.later t x).lev := by
  unfold Space.later
  split
  · exact hx
  · rename_i h
    rcases hx with hx | hx
    · exact absurd hx h
    · have := riseAt_le hv t
      refine .inr ?_
      simp only [limited]
      omega
theorem lev_small {x : Sp} (h : x.lev) : x.small := by
  rcases h with h | h
  · rw [h]; exact ⟨by decide, by decide⟩
  · exact ⟨by omega, by omega⟩

end Go.Proofs.Gas
