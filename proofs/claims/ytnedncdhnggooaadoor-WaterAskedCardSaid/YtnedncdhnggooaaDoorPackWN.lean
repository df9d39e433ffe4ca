/- The reference: which sample to take next; the law's function WaterAsk returns true; The law's function WaterAsk returns true. No condition. -/
import Derived.Test.YtnedncdhnggooaaDoorPackWL
import Derived.Test.YtnedncdhnggooaaDoorPackWD

namespace Go.Proofs.Water
open Go.V Go.Proofs

theorem card_low : ∀ n : Nat, n < 6 → ∀ a : Nat, a < 32 → (∀ i : Nat, i < 5 → a.testBit i = true → i < n) → card a ≤ n := by decide +kernel
theorem can_card {s : Sh} (hv : s.Valid) {l : List Smp} (hl : l.length ≤ 8) (sm : Nat) : card (s.can l sm) ≤ s.yards.length :=
  card_low _ (by have := hv.yl; omega) _ (can_lt _ _ _) fun _ _ h => can_yard hv hl h
theorem leaves_le {s : Sh} (hv : s.Valid) {l : List Smp} (hl : l.length < 8) (n : Nat) (x : Smp) : s.leavesN l n x ≤ s.yards.length := by
  unfold Sh.leavesN Sh.cardB
  have h1 := fun b => can_card hv (l := l ++ [smpB x b]) (by simp; omega) (2 ^ n)
  exact Nat.max_le.2 ⟨h1 _, h1 _⟩

/-- What was best so far: nothing yet, or b. -/
def FB (L : List (Nat × Nat × Nat)) (v : D) (cs : List D) (b : Bst) : Prop := (v = .tt ∧ cs = [.int .i64 0, .int .i64 0, .int .i64 0, .int .i64 0] ∧ L = []) ∨ (v = .ff ∧ cs = [.int .i64 b.at', .int .i64 b.tide, .int .i64 b.kind, .int .i64 b.n])

/-- The error of the places, behind another one. -/
def psE (e : Int) (ps : List Int) : Int := if e = 0 then (if ps.any (outB 0 100) = true then 7 else 0) else e
theorem psE_step {e : Int} {ps : List Int} {i : Nat} (h : i < ps.length) : psE e (ps.take (i + 1)) = if psE e (ps.take i) = 0 then (if outB 0 100 ps[i] = true then 7 else 0) else psE e (ps.take i) := by
  unfold psE
  rw [List.take_succ_eq_append_getElem h, List.any_append]
  by_cases he : e = 0
  · subst he
    cases h1 : (ps.take i).any (outB 0 100) <;> cases h2 : outB 0 100 ps[i] <;> simp [h2]
  · simp [he]
theorem psE_bad {e : Int} {ps : List Int} {i : Nat} (h : psE e (ps.take i) ≠ 0) : psE e ps = psE e (ps.take i) := by
  unfold psE at h ⊢
  by_cases he : e = 0
  · subst he
    cases h1 : (ps.take i).any (outB 0 100) with
    | false => rw [h1] at h; exact absurd rfl h
    | true =>
      have h2 : ps.any (outB 0 100) = true := by
        rw [← List.take_append_drop i ps, List.any_append, h1]; rfl
      rw [h2]
  · rw [if_neg he, if_neg he]
theorem inR_out (n lo hi : Int) : (!(inR n lo hi)) = outB lo hi n := by
  unfold inR outB
  apply Bool.eq_iff_iff.2
  simp

theorem askP_ne {m p : Nat} (hm : 1 ≤ m) (hp : 1 ≤ p) : askP m p ≠ [] := fun h => by
  have h1 : (0, 0, 0) ∈ askP m p := by
    unfold askP
    simp only [List.mem_flatMap, List.mem_range, List.mem_map]
    exact ⟨0, by omega, 0, by omega, 0, by omega, rfl⟩
  rw [h] at h1
  cases h1

set_option maxRecDepth 8000 in
set_option maxHeartbeats 16000000 in
theorem den30 (s : Sh) (l : List Smp) (n : Int) (ps : List Int) : DN 30 [.agg s.enc, .list 4 (l.map Smp.enc), .int .i64 n, .list 1 (ps.map encI)] (askD (s.askB l n ps) (s.askE l n ps)) := by
  refine mk Tryd.func30 Tryd.call30 rfl rfl ?_
  have hl8 : ((l.map Smp.enc).length : Int) = l.length := smp_lenI l
  have hpl : ((ps.map encI).length : Int) = ps.length := by rw [encI_len]
  have hin : (!(inR ((ps.map encI).length : Int) 1 4)) = outB 1 4 ps.length := by rw [inR_out, hpl]
  have h66 := den66 s l n
  have h54 := den54 ((ps.map encI).length : Int) 1 4
  have eB0 : ∀ e, s.askE l n ps = e → e ≠ 0 → s.askB l n ps = ⟨0, 0, 0, 0⟩ := fun e h h0 => by
    have : (s.askE l n ps != 0) = true := by rw [h]; simpa using h0
    unfold Sh.askB; rw [this]
  have fin : ∀ e, s.askE l n ps = e → e ≠ 0 → some (askD ⟨0, 0, 0, 0⟩ e) = some (askD (s.askB l n ps) (s.askE l n ps)) := fun e h h0 => by rw [eB0 e h h0, h]
  by_cases hgood : s.foundE l n = 0 ∧ (((l.map Smp.enc).length : Int) == 8) = false ∧ (!(inR ((ps.map encI).length : Int) 1 4)) = false
  rotate_left
  · -- an error ahead of the places
    have hcs : (s.foundE l n = 0 ∧ (((l.map Smp.enc).length : Int) == 8) = true ∧ s.askE l n ps = 3) ∨ (s.foundE l n = 0 ∧ (((l.map Smp.enc).length : Int) == 8) = false ∧ (!(inR ((ps.map encI).length : Int) 1 4)) = true ∧ s.askE l n ps = 3) ∨
        (s.foundE l n ≠ 0 ∧ s.askE l n ps = s.foundE l n) := by
      have hany : [(ps.length : Int)].any (outB 1 4) = outB 1 4 ps.length := by simp
      by_cases hf : s.foundE l n = 0
      · have h1 : (s.foundE l n != 0) = false := by simp [hf]
        cases h2 : (((l.map Smp.enc).length : Int) == 8) with
        | true =>
          refine .inl ⟨hf, rfl, ?_⟩
          unfold Sh.askE
          rw [hl8] at h2
          rw [h1, h2]; rfl
        | false =>
          cases h3 : (!(inR ((ps.map encI).length : Int) 1 4)) with
          | true =>
            refine .inr (.inl ⟨hf, rfl, rfl, ?_⟩)
            unfold Sh.askE
            rw [hl8] at h2
            rw [hin] at h3
            rw [h1, h2, hany, h3]; rfl
          | false => exact absurd ⟨hf, h2, h3⟩ hgood
      · refine .inr (.inr ⟨hf, ?_⟩)
        have h1 : (s.foundE l n != 0) = true := by simpa using hf
        unfold Sh.askE
        rw [h1]
    clear hgood
    obtain ⟨fe, hfe⟩ : ∃ fe, s.foundE l n = fe := ⟨_, rfl⟩
    rw [hfe] at h66 hcs
    refine ⟨_, rfl, _, h66, ?_⟩
    rcases hcs with hc | hc | hc
    all_goals first
      | (obtain ⟨hA, hB, hv⟩ : fe = 0 ∧ (((l.map Smp.enc).length : Int) == 8) = true ∧ s.askE l n ps = 3 := hc
         refine ⟨fun _ => ?_, fun h => absurd hA (by simpa using h)⟩
         refine ⟨fun _ => ?_, fun h => absurd (hB.symm.trans h) (by decide)⟩
         have hvn : (3 : Int) ≠ 0 := by decide)
      | (obtain ⟨hA, hB, hC, hv⟩ : fe = 0 ∧ (((l.map Smp.enc).length : Int) == 8) = false ∧ (!(inR ((ps.map encI).length : Int) 1 4)) = true ∧ s.askE l n ps = 3 := hc
         refine ⟨fun _ => ?_, fun h => absurd hA (by simpa using h)⟩
         refine ⟨fun h => absurd (hB.symm.trans h) (by decide), fun _ => ?_⟩
         refine ⟨_, rfl, _, h54, ?_⟩
         refine ⟨fun _ => ?_, fun h => absurd (hC.symm.trans h) (by decide)⟩
         have hvn : (3 : Int) ≠ 0 := by decide)
      | (obtain ⟨hA, hv⟩ : fe ≠ 0 ∧ s.askE l n ps = fe := hc
         refine ⟨fun h => absurd (by simpa using h) hA, fun _ => ?_⟩
         have hvn := hA)
    all_goals
      refine ⟨[1, 2, 3, 4, 13, 14], 1, [], fun σ => ∃ e : Int, e ≠ 0 ∧ s.askE l n ps = e ∧ σ = ⟨[(1, .list 4 (l.map Smp.enc)), (2, .int .i64 n), (3, .list 1 (ps.map encI)), (4, .loc 0 0), (13, .int .i64 e), (14, .int .i64 0)], [.flat false s.enc], .non⟩,
        fun σ => 0, rfl, ⟨rfl, rfl⟩, ⟨_, hvn, hv, rfl⟩, ?_⟩
      clear hvn hv
      rintro σ ⟨e, hvn, hv, rfl⟩
      have h65 := den65 s l e (fun h => absurd h hvn)
      have hag : s.agreedE l e = e := by
        unfold Sh.agreedE
        have : (e == 0) = false := by simpa using hvn
        rw [this]
      rw [hag] at h65
      refine ⟨fun h1 => ?_, fun h1 => ?_⟩
      · refine ⟨fun h2 => absurd (by simpa using h2) hvn, fun _ => ?_⟩
        refine ⟨_, rfl, _, h65, ?_⟩
        refine ⟨fun _ => ?_, fun h => absurd (by simpa using h) hvn⟩
        exact fin _ hv hvn
      · refine ⟨_, rfl, _, h65, ?_⟩
        refine ⟨fun _ => ?_, fun h => absurd (by simpa using h) hvn⟩
        exact fin _ hv hvn
  -- no error ahead of the places
  obtain ⟨hf, hB, hC⟩ := hgood
  obtain ⟨ho, hg⟩ := foundE_ok2 hf
  have hok := ok_of ho
  have hll := hok.ll
  have hl : l.length < 8 := by rw [hl8] at hB; simp at hB; omega
  have hps : 1 ≤ ps.length ∧ ps.length ≤ 4 := by rw [hin] at hC; simp [outB] at hC; omega
  obtain ⟨hn1, hn2, hn3⟩ := givenE_zero hg
  obtain ⟨m, rfl⟩ : ∃ m : Nat, n = m := ⟨n.toNat, by omega⟩
  have hask : s.askE l m ps = s.agreedE l (psE 0 ps) := by
    have h1 : (s.foundE l m != 0) = false := by simp [hf]
    have hany : [(ps.length : Int)].any (outB 1 4) = outB 1 4 ps.length := by simp
    rw [hl8] at hB
    rw [hin] at hC
    unfold Sh.askE psE Sh.agreedE
    rw [h1, hB, hany, hC]
    cases ps.any (outB 0 100) <;> rfl
  have hBgood : s.askE l m ps = 0 → s.askB l m ps = s.askF l m ps (askP s.drifts.length ps.length) s.b0 := fun h => by
    have : (s.askE l m ps != 0) = false := by rw [h]; rfl
    unfold Sh.askB; rw [this]; rfl
  rw [hf] at h66
  refine ⟨_, rfl, _, h66, ?_⟩
  refine ⟨fun _ => ?_, fun h => absurd h (by decide)⟩
  refine ⟨fun h => absurd (hB.symm.trans h) (by decide), fun _ => ?_⟩
  refine ⟨_, rfl, _, h54, ?_⟩
  refine ⟨fun h => absurd (hC.symm.trans h) (by decide), fun _ => ?_⟩
  clear hB hC hin h66 h54 hf hg
  refine ⟨[1, 2, 3, 4, 13, 14], 1, [], fun σ => ∃ (i : Nat) (e : Int), i ≤ ps.length ∧ e = psE 0 (ps.take i) ∧
    σ = ⟨[(1, .list 4 (l.map Smp.enc)), (2, .int .i64 m), (3, .list 1 (ps.map encI)), (4, .loc 0 0), (13, .int .i64 e), (14, .int .i64 i)], [.flat false s.enc], .non⟩,
    fun σ => (1000 - slotI 14 σ).toNat, rfl, ⟨rfl, rfl⟩, ⟨0, 0, Nat.zero_le _, rfl, rfl⟩, ?_⟩
  rintro σ ⟨i, e, hi, hee, rfl⟩
  have hbad : e ≠ 0 → s.askE l m ps = e ∧ s.agreedE l e = e := fun h2 => by
    have h3 : s.agreedE l e = e := by
      unfold Sh.agreedE
      have : (e == 0) = false := by simpa using h2
      rw [this]
    rw [hask, psE_bad (by rw [← hee]; exact h2), ← hee]
    exact ⟨h3, h3⟩
  refine ⟨fun h1 => ?_, fun h1 => ?_⟩
  · have h1 := of_decide_eq_true h1
    rw [hpl] at h1
    have hi' : i < ps.length := by omega
    have hstep := psE_step (e := 0) hi'
    rw [← hee] at hstep
    refine ⟨fun h2 => ?_, fun h2 => ?_⟩
    · have h2 : e = 0 := by simpa using h2
      rw [if_pos h2] at hstep
      have less : (1000 - ((i : Int) + 1)).toNat < (1000 - (i : Int)).toNat := by omega
      refine ⟨by omega, _, encI_get hi', ?_⟩
      refine ⟨_, rfl, _, den54 ps[i] 0 100, ?_⟩
      refine ⟨fun h3 => ?_, fun h3 => ?_⟩
      · have h3 : outB 0 100 ps[i] = true := by rw [← inR_out]; exact h3
        rw [h3, if_pos rfl] at hstep
        refine ⟨(i : Int) + 1, wrap64 (by omega) (by omega), ?_⟩
        exact ⟨⟨rfl, rfl⟩, ⟨i + 1, 7, hi', hstep.symm, rfl⟩, less⟩
      · have h3 : outB 0 100 ps[i] = false := by rw [← inR_out]; exact h3
        rw [h3, if_neg (by decide)] at hstep
        refine ⟨(i : Int) + 1, wrap64 (by omega) (by omega), ?_⟩
        exact ⟨⟨rfl, rfl⟩, ⟨i + 1, e, hi', by rw [hstep]; exact h2, rfl⟩, less⟩
    · have h2 : e ≠ 0 := by simpa using h2
      obtain ⟨ha, hag⟩ := hbad h2
      have h65 := den65 s l e (fun h => absurd h h2)
      rw [hag] at h65
      refine ⟨_, rfl, _, h65, ?_⟩
      refine ⟨fun _ => ?_, fun h => absurd (by simpa using h) h2⟩
      exact fin e ha h2
  have h1 := of_decide_eq_false h1
  rw [hpl] at h1
  have hip : i = ps.length := by omega
  have h65 := den65 s l e (fun _ => hok)
  rw [hip, List.take_length] at hee
  by_cases hz : s.agreedE l e = 0
  rotate_left
  · have ha : s.askE l m ps = s.agreedE l e := by rw [hask, hee]
    obtain ⟨A, hA⟩ : ∃ A, s.agreedE l e = A := ⟨_, rfl⟩
    rw [hA] at h65 hz ha
    refine ⟨_, rfl, _, h65, ?_⟩
    refine ⟨fun _ => ?_, fun h => absurd (by simpa using h) hz⟩
    exact fin A ha hz
  have ha : s.askE l m ps = 0 := by rw [hask, ← hee]; exact hz
  rw [hz] at h65
  refine ⟨_, rfl, _, h65, ?_⟩
  refine ⟨fun h => absurd h (by decide), fun _ => ?_⟩
  have he0 : e = 0 := (agreedE_ok hz).1
  have hpb : ∀ v ∈ ps, 0 ≤ v ∧ v ≤ 100 := by
    rw [he0] at hee
    unfold psE at hee
    rw [if_pos rfl] at hee
    cases h3 : ps.any (outB 0 100) with
    | true => rw [h3, if_pos rfl] at hee; cases hee
    | false =>
      intro v hv
      have := List.any_eq_false.1 h3 v hv
      simp [outB] at this
      omega
  have hBg := hBgood ha
  rw [ha, hBg]
  clear fin eB0 hbad h65 hee hask hBgood hBg ha
  have hdl := hok.v.dl
  have hyl := hok.v.yl
  have hle := fun x => leaves_le hok.v hl m x
  obtain ⟨d, hd⟩ : ∃ d, s.drifts.length = d := ⟨_, rfl⟩
  have hdml : ((s.drifts.map Sp.enc).length : Int) = d := by rw [sp_len, hd]
  have hx0 := fun (p t k : Nat) (hp : p < ps.length) (ht : t < d) (hk : k < 2) => (⟨⟨Int.natCast_nonneg _, by show (t : Int) < _; omega⟩, ⟨Int.natCast_nonneg _, by show (k : Int) ≤ 1; omega⟩, hpb ps[p] (List.getElem_mem hp)⟩ : s.okX (smp0 ps[p] t k))
  rw [hd] at hdl ⊢
  refine ⟨[1, 2, 3, 4, 15, 16, 17], 2, [], fun σ => ∃ (p : Nat) (v : D) (cs : List D) (b : Bst), p ≤ ps.length ∧ FB (askP d p) v cs b ∧ s.askF l m ps (askP d p) s.b0 = b ∧
    σ = ⟨[(1, .list 4 (l.map Smp.enc)), (2, .int .i64 m), (3, .list 1 (ps.map encI)), (4, .loc 0 0), (15, .loc 1 0), (16, v), (17, .int .i64 p)], [.flat false s.enc, .flat false cs], .non⟩,
    fun σ => (1000 - slotI 17 σ).toNat, rfl, ⟨rfl, rfl⟩, ⟨0, .tt, _, s.b0, Nat.zero_le _, .inl ⟨rfl, rfl, rfl⟩, rfl, rfl⟩, ?_⟩
  rintro σ ⟨p, v, cs, b, hp, hfb, hb, rfl⟩
  refine ⟨fun h5 => ?_, fun h5 => ?_⟩
  rotate_left
  · have h5 := of_decide_eq_false h5
    rw [hpl] at h5
    have hpe : p = ps.length := by omega
    rcases hfb with ⟨rfl, rfl, hL⟩ | ⟨rfl, rfl⟩
    · exact absurd hL (askP_ne (by omega) (by omega))
    · refine Or.inl ⟨by kernel_rfl, ?_⟩
      refine ⟨⟨by decide, by decide⟩, ?_⟩
      refine ⟨⟨by decide, by decide⟩, ?_⟩
      refine ⟨⟨by decide, by decide⟩, ?_⟩
      refine ⟨⟨by decide, by decide⟩, ?_⟩
      rw [← hpe, hb]
      rfl
  have h5 := of_decide_eq_true h5
  rw [hpl] at h5
  have hp' : p < ps.length := by omega
  have hdp : dAt ps p = ps[p] := dAt_get hp'
  have lessP : (1000 - ((p : Int) + 1)).toNat < (1000 - (p : Int)).toNat := by omega
  rcases hfb with ⟨rfl, rfl, hL⟩ | ⟨rfl, rfl⟩
  all_goals
    refine ⟨[1, 2, 3, 4, 15, 16, 17, 18], 2, [], fun σ => ∃ (t : Nat) (v : D) (cs : List D) (b : Bst), t ≤ d ∧ FB (askT d p t) v cs b ∧ s.askF l m ps (askT d p t) s.b0 = b ∧
      σ = ⟨[(1, .list 4 (l.map Smp.enc)), (2, .int .i64 m), (3, .list 1 (ps.map encI)), (4, .loc 0 0), (15, .loc 1 0), (16, v), (17, .int .i64 p), (18, .int .i64 t)], [.flat false s.enc, .flat false cs], .non⟩,
      fun σ => (1000 - slotI 18 σ).toNat, rfl, ⟨rfl, rfl⟩, ⟨0, _, _, b, Nat.zero_le _, by rw [askT_zero]; first | exact .inl ⟨rfl, rfl, hL⟩ | exact .inr ⟨rfl, rfl⟩, by rw [askT_zero]; exact hb, rfl⟩, ?_⟩
    clear hb
    rintro σ ⟨t, v, cs, b, ht, hfb, hb, rfl⟩
    refine ⟨fun h6 => ?_, fun h6 => ?_⟩
    rotate_left
    · have h6 := of_decide_eq_false h6
      rw [hdml] at h6
      have htd : t = d := by omega
      rw [htd, askT_end] at hfb hb
      refine ⟨(p : Int) + 1, wrap64 (by omega) (by omega), ?_⟩
      rcases hfb with ⟨rfl, rfl, hL⟩ | ⟨rfl, rfl⟩
      · exact ⟨⟨rfl, rfl⟩, ⟨p + 1, _, _, b, by omega, .inl ⟨rfl, rfl, hL⟩, hb, rfl⟩, lessP⟩
      · exact ⟨⟨rfl, rfl⟩, ⟨p + 1, _, _, b, by omega, .inr ⟨rfl, rfl⟩, hb, rfl⟩, lessP⟩
    have h6 := of_decide_eq_true h6
    rw [hdml] at h6
    have ht' : t < d := by omega
    have lessT : (1000 - ((t : Int) + 1)).toNat < (1000 - (t : Int)).toNat := by omega
    rcases hfb with ⟨rfl, rfl, hL⟩ | ⟨rfl, rfl⟩
    all_goals
      refine ⟨[1, 2, 3, 4, 15, 16, 17, 18, 19], 2, [], fun σ => ∃ (k : Nat) (v : D) (cs : List D) (b : Bst), k ≤ 2 ∧ FB (askK d p t k) v cs b ∧ s.askF l m ps (askK d p t k) s.b0 = b ∧
        σ = ⟨[(1, .list 4 (l.map Smp.enc)), (2, .int .i64 m), (3, .list 1 (ps.map encI)), (4, .loc 0 0), (15, .loc 1 0), (16, v), (17, .int .i64 p), (18, .int .i64 t), (19, .int .i64 k)], [.flat false s.enc, .flat false cs], .non⟩,
        fun σ => (1000 - slotI 19 σ).toNat, rfl, ⟨rfl, rfl⟩, ⟨0, _, _, b, Nat.zero_le _, by rw [askK_zero]; first | exact .inl ⟨rfl, rfl, hL⟩ | exact .inr ⟨rfl, rfl⟩, by rw [askK_zero]; exact hb, rfl⟩, ?_⟩
      clear hb
      rintro σ ⟨k, v, cs, b, hk, hfb, hb, rfl⟩
      refine ⟨fun h7 => ?_, fun h7 => ?_⟩
      rotate_left
      · have h7 : ¬ (k : Int) < 2 := of_decide_eq_false h7
        have hk2 : k = 2 := by omega
        rw [hk2, askK_end] at hfb hb
        refine ⟨(t : Int) + 1, wrap64 (by omega) (by omega), ?_⟩
        rcases hfb with ⟨rfl, rfl, hL⟩ | ⟨rfl, rfl⟩
        · exact ⟨⟨rfl, rfl⟩, ⟨t + 1, _, _, b, by omega, .inl ⟨rfl, rfl, hL⟩, hb, rfl⟩, lessT⟩
        · exact ⟨⟨rfl, rfl⟩, ⟨t + 1, _, _, b, by omega, .inr ⟨rfl, rfl⟩, hb, rfl⟩, lessT⟩
      have h7 : (k : Int) < 2 := of_decide_eq_true h7
      have hx := hx0 p t k hp' ht' (by omega)
      have h73 := den73 s l hok hl m (by omega) (smp0 ps[p] t k) hx
      have hlv := left_leaves s l m (smp0 ps[p] t k)
      have hla : s.leftN l (fnd l) m (smp0 ps[p] t k) = s.leftAt l m ps (p, t, k) := by unfold Sh.leftAt; rw [hdp]
      have hsb : smpB (smp0 ps[p] t k) false = smp0 ps[p] t k := rfl
      rw [hsb, hla] at hlv
      have hl5 := hle (smp0 ps[p] t k)
      have hnext : s.askF l m ps (askK d p t (k + 1)) s.b0 = b.upd p t k (s.leftAt l m ps (p, t, k)) := by rw [askK_succ, askF_snoc, hb]
      rw [hlv] at hnext
      obtain ⟨u, hu⟩ : ∃ u, s.leavesN l m (smp0 ps[p] t k) = u := ⟨_, rfl⟩
      rw [hu] at h73 hl5 hnext
      have less : (1000 - ((k : Int) + 1)).toNat < (1000 - (k : Int)).toNat := by omega
      rcases hfb with ⟨rfl, rfl, hL⟩ | ⟨rfl, rfl⟩
      · have hb0 : b = s.b0 := by rw [← hb, hL]; rfl
        have hup : b.upd p t k u = ⟨p, t, k, u⟩ := by
          unfold Bst.upd
          rw [if_pos]
          rw [hb0]
          show (u : Int) < (s.yards.length : Int) + 1
          omega
        rw [hup] at hnext
        refine Or.inl ⟨by kernel_rfl, ?_⟩
        refine ⟨by omega, _, encI_get hp', ?_⟩
        refine ⟨_, rfl, _, h73, ?_⟩
        refine ⟨(k : Int) + 1, wrap64 (by omega) (by omega), ?_⟩
        exact ⟨⟨rfl, rfl⟩, ⟨k + 1, _, _, ⟨p, t, k, u⟩, by omega, .inr ⟨rfl, rfl⟩, hnext, rfl⟩, less⟩
      · refine Or.inl ⟨by kernel_rfl, ?_⟩
        refine ⟨by omega, _, encI_get hp', ?_⟩
        refine ⟨_, rfl, _, h73, ?_⟩
        refine ⟨⟨by decide, by decide⟩, ?_⟩
        refine ⟨fun h8 => ?_, fun h8 => ?_⟩
        · have h8 : (u : Int) < b.n := of_decide_eq_true h8
          rw [Bst.upd, if_pos h8] at hnext
          refine ⟨(k : Int) + 1, wrap64 (by omega) (by omega), ?_⟩
          exact ⟨⟨rfl, rfl⟩, ⟨k + 1, _, _, ⟨p, t, k, u⟩, by omega, .inr ⟨rfl, rfl⟩, hnext, rfl⟩, less⟩
        · have h8 : ¬ (u : Int) < b.n := of_decide_eq_false h8
          rw [Bst.upd, if_neg h8] at hnext
          refine ⟨(k : Int) + 1, wrap64 (by omega) (by omega), ?_⟩
          exact ⟨⟨rfl, rfl⟩, ⟨k + 1, _, _, b, by omega, .inr ⟨rfl, rfl⟩, hnext, rfl⟩, less⟩

end Go.Proofs.Water

namespace Go.Proofs.Water
open Go.V Go.Proofs

theorem den5 (s : Sh) (l : List Smp) (n : Int) (ps : List Int) : DN 5 [.agg s.enc, .list 4 (l.map Smp.enc), .agg [.int .i64 n, .list 1 (ps.map encI)]] (.bool true) := by
  refine mk Tryd.func5 Tryd.call5 rfl rfl ?_
  have eqs : ∀ n : Int, (n == n) = true := fun n => by simp
  have h29 := den29 s l n ps
  have h30 := den30 s l n ps
  obtain ⟨⟨a, b, c, d⟩, hb⟩ : ∃ b, s.askB l n ps = b := ⟨_, rfl⟩
  obtain ⟨e, he⟩ : ∃ e, s.askE l n ps = e := ⟨_, rfl⟩
  rw [hb, he] at h29 h30
  refine ⟨_, rfl, _, h29, ?_⟩
  refine ⟨_, rfl, _, h30, ?_⟩
  refine ⟨fun _ => ?_, fun h => absurd ((eqs _).symm.trans h) (by decide)⟩
  refine ⟨fun _ => ?_, fun h => absurd ((eqs _).symm.trans h) (by decide)⟩
  refine ⟨fun _ => ?_, fun h => absurd ((eqs _).symm.trans h) (by decide)⟩
  refine ⟨fun _ => ?_, fun h => absurd ((eqs _).symm.trans h) (by decide)⟩
  refine ⟨fun _ => ?_, fun h => absurd ((eqs _).symm.trans h) (by decide)⟩
  exact ⟨_, rfl, _, den22, rfl⟩

end Go.Proofs.Water
