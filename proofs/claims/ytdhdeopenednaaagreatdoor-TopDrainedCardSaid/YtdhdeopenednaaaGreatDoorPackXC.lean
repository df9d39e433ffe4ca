/- Which sample to take next, in the program; The reference: spills, and whether they explain samples; The reference: whether spills explain the samples; The reference: all ways in which water can drift; The plain law: the program's truths and the reference's are the same; The reference: Explain, agreed, Agree, can, Can; The reference: Can, Must, Fewest; The reference: Sources. No condition. -/
import Derived.Test.YtdhdeopenednaaaGreatDoorPackXB

namespace Go.Proofs.Water
open Go.V Go.Proofs Go.Proofs.Top

def Sh.askF (s : Sh) (l : List Smp) (n : Nat) (ps : List Int) (L : List (Nat × Nat × Nat)) (b : Bst) : Bst := L.foldl (fun b q => b.upd q.1 q.2.1 q.2.2 (s.leftAt l n ps q)) b
theorem askF_snoc (s : Sh) (l : List Smp) (n : Nat) (ps : List Int) (L : List (Nat × Nat × Nat)) (q : Nat × Nat × Nat) (b : Bst) : s.askF l n ps (L ++ [q]) b = (s.askF l n ps L b).upd q.1 q.2.1 q.2.2 (s.leftAt l n ps q) := by
  unfold Sh.askF; rw [List.foldl_append]; rfl
def Sh.b0 (s : Sh) : Bst := ⟨0, 0, 0, (s.yards.length : Int) + 1⟩
/-- The error of what is asked. -/
def Sh.askE (s : Sh) (l : List Smp) (n : Int) (ps : List Int) : Int := match s.foundE l n != 0 with
  | true => s.foundE l n
  | false => match ((l.length : Int) == 8) || [(ps.length : Int)].any (outB 1 4) with
    | true => 3
    | false => match ps.any (outB 0 100) with
      | true => 7
      | false => match s.expl l s.all with | true => 0 | false => 9
def Sh.askB (s : Sh) (l : List Smp) (n : Int) (ps : List Int) : Bst := match s.askE l n ps != 0 with
  | true => ⟨0, 0, 0, 0⟩
  | false => s.askF l n.toNat ps (askP s.drifts.length ps.length) s.b0
def askD (b : Bst) (e : Int) : D := .tup [.int .i64 b.at', .int .i64 b.tide, .int .i64 b.kind, .int .i64 b.n, .int .i64 e]

theorem leftAt_le (s : Sh) (l : List Smp) (n : Nat) (ps : List Int) (q : Nat × Nat × Nat) : s.leftAt l n ps q ≤ 5 := by
  unfold Sh.leftAt Sh.leftN
  have h1 := fun x => card_le x
  exact Nat.max_le.2 ⟨h1 _, h1 _⟩

set_option maxRecDepth 4000 in
set_option maxHeartbeats 2000000 in
theorem den43 (s : Sh) (l : List Smp) (n : Int) (ps : List Int) : DN 43 [.agg s.enc, .list 4 (l.map Smp.enc), .int .i64 n, .list 1 (ps.map encI)] (askD (s.askB l n ps) (s.askE l n ps)) := by
  have h57 := den56 s l
  have bad : ∀ e, s.askE l n ps = e → e ≠ 0 → some (askD ⟨0, 0, 0, 0⟩ e) = some (askD (s.askB l n ps) (s.askE l n ps)) := fun e h h0 => by
    have : (s.askE l n ps != 0) = true := by rw [h]; simpa using h0
    unfold Sh.askB; rw [this, h]
  by_cases hf : s.foundE l n = 0
  rotate_left
  · have hfne : (s.foundE l n != 0) = true := by simpa using hf
    have hbad := bad (s.foundE l n) (by unfold Sh.askE; rw [hfne]) hf
    refine mk Tryz.func43 Tryz.call43 rfl rfl ?_
    by_cases h0 : s.openE l = 0
    · have hok := ok_of h0
      rw [opened_ok h0, h0] at h57
      rw [foundE_ok h0] at hf hbad
      refine ⟨_, rfl, _, h57, ?_⟩
      refine ⟨fun _ => ?_, (fun h => nomatch h)⟩
      refine ⟨_, rfl, _, den63 s l _ n hok.ll, ?_⟩
      obtain ⟨e, he⟩ : ∃ e, givenE l n = e := ⟨_, rfl⟩
      rw [he] at hf hbad ⊢
      refine ⟨fun _ => ?_, fun h => absurd (by simpa using h) hf⟩
      exact hbad
    · have hne : (s.openE l == 0) = false := by simpa using h0
      have hF : s.foundE l n = s.openE l := by unfold Sh.foundE; rw [hne]
      rw [hF] at hf hbad
      obtain ⟨a, b, c, yl, dl, ll, sp, f, ho⟩ := opened_form s l
      rw [ho] at h57
      obtain ⟨e, he⟩ : ∃ e, s.openE l = e := ⟨_, rfl⟩
      rw [he] at h57 h0 hbad
      refine ⟨_, rfl, _, h57, ?_⟩
      refine ⟨fun h => absurd (by simpa using h) h0, fun _ => ?_⟩
      refine ⟨fun _ => ?_, fun h => absurd (by simpa using h) h0⟩
      exact hbad
  have h0 : s.openE l = 0 := by
    unfold Sh.foundE at hf
    cases h : s.openE l == 0 with
    | true => simpa using h
    | false =>
      rw [h] at hf
      have : ¬ s.openE l = 0 := by simpa using h
      exact absurd hf this
  have hg : givenE l n = 0 := by rw [← foundE_ok h0]; exact hf
  obtain ⟨hn1, hn2, hn3⟩ := givenE_zero hg
  obtain ⟨m, rfl⟩ : ∃ m : Nat, n = m := ⟨n.toNat, by omega⟩
  have hok := ok_of h0
  have hll := hok.ll
  have hyl := hok.v.yl
  have hdl := hok.v.dl
  have hall := all_lt hok.v
  have hfl := fnd_lt hok
  have hfe : (s.foundE l m != 0) = false := by rw [hf]; rfl
  rw [opened_ok h0, h0] at h57
  refine mk Tryz.func43 Tryz.call43 rfl rfl ?_
  refine ⟨_, rfl, _, h57, ?_⟩
  refine ⟨fun _ => ?_, (fun h => nomatch h)⟩
  have h62 := den63 s l ((fnd l : Nat) : Int) m hok.ll
  rw [hg] at h62
  refine ⟨_, rfl, _, h62, ?_⟩
  refine ⟨(fun h => nomatch h), fun _ => ?_⟩
  have b3 : (((l.length : Int) == 8) || [(ps.length : Int)].any (outB 1 4)) = true → s.askE l m ps = 3 := fun h => by unfold Sh.askE; rw [hfe, h]
  refine ⟨fun h1 => ?_, fun h1 => ?_⟩
  · have h1 : ((l.length : Int) == 8) = true := by rw [← smp_lenI]; exact h1
    exact bad 3 (b3 (by rw [h1]; rfl)) (by decide)
  have h1 : ((l.length : Int) == 8) = false := by rw [← smp_lenI]; exact h1
  have hl8 : l.length < 8 := by simp at h1; omega
  refine ⟨_, rfl, _, den74 [((ps.map encI).length : Int)] 1 4 (by simp), ?_⟩
  refine ⟨fun h2 => ?_, fun h2 => ?_⟩
  · have h2 : [(ps.length : Int)].any (outB 1 4) = true := by rw [← encI_len]; exact h2
    exact bad 3 (b3 (by rw [h1, h2]; rfl)) (by decide)
  have h2 : [(ps.length : Int)].any (outB 1 4) = false := by rw [← encI_len]; exact h2
  have hpl : ps.length ≤ 4 := by simp [outB] at h2; omega
  refine ⟨_, rfl, _, den74 ps 0 100 (by omega), ?_⟩
  refine ⟨fun h3 => ?_, fun h3 => ?_⟩
  · have h3 : ps.any (outB 0 100) = true := h3
    exact bad 7 (by unfold Sh.askE; rw [hfe, h1, h2, h3]; rfl) (by decide)
  have h3 : ps.any (outB 0 100) = false := h3
  have hpb : ∀ v ∈ ps, 0 ≤ v ∧ v ≤ 100 := fun v hv => by
    have := List.any_eq_false.1 h3 v hv
    simp [outB] at this
    omega
  refine Or.inl ⟨by kernel_rfl, ?_⟩
  refine ⟨_, rfl, _, den58 s l _ hyl.2, ?_⟩
  refine ⟨_, rfl, _, den57o s l hok s.all (by omega), ?_⟩
  refine ⟨fun h4 => ?_, fun h4 => ?_⟩
  · have h4 : s.expl l s.all = false := by simpa using h4
    exact bad 9 (by unfold Sh.askE; rw [hfe, h1, h2, h3, h4]; rfl) (by decide)
  have h4 : s.expl l s.all = true := by simpa using h4
  have hE : s.askE l m ps = 0 := by unfold Sh.askE; rw [hfe, h1, h2, h3, h4]; rfl
  have hB : s.askB l m ps = s.askF l m ps (askP s.drifts.length ps.length) s.b0 := by unfold Sh.askB; rw [hE]; rfl
  rw [hE, hB]
  clear bad b3
  obtain ⟨d, hd⟩ : ∃ d, s.drifts.length = d := ⟨_, rfl⟩
  have hdml : ((s.drifts.map Sp.enc).length : Int) = d := by rw [sp_len, hd]
  rw [hd] at hdl ⊢
  have hb0 : s.askF l m ps (askP d 0) s.b0 = ⟨0, 0, 0, (s.yards.length : Int) + 1⟩ := rfl
  refine ⟨(s.yards.length : Int) + 1, by rw [yd_len]; exact wrap64 (by omega) (by omega), ?_⟩
  refine ⟨[2, 8, 9, 10, 11, 13, 58, 59, 60], 2, [], fun σ => ∃ (p : Nat) (b : Bst), p ≤ ps.length ∧ s.askF l m ps (askP d p) s.b0 = b ∧
    σ = ⟨[(2, .int .i64 m), (8, .int .i64 b.at'), (9, .int .i64 b.tide), (10, .int .i64 b.kind), (11, .int .i64 b.n), (13, .loc 1 0), (58, .list 1 (ps.map encI)), (59, .int .i64 (ps.map encI).length), (60, .int .i64 p)], [.flat false s.enc, .flat false (s.encS l ((fnd l : Nat) : Int))], .non⟩,
    fun σ => (1000 - slotI 60 σ).toNat, rfl, ⟨rfl, rfl⟩, ⟨0, _, Nat.zero_le _, hb0, rfl⟩, ?_⟩
  rintro σ ⟨p, b, hp, hb, rfl⟩
  refine ⟨fun h5 => ?_, fun h5 => ?_⟩
  · have h5 := of_decide_eq_true h5
    rw [encI_len] at h5
    have hp' : p < ps.length := by omega
    have hpv := hpb ps[p] (List.getElem_mem hp')
    have hdp : dAt ps p = ps[p] := dAt_get hp'
    refine ⟨by omega, _, encI_get hp', ?_⟩
    refine ⟨[2, 8, 9, 10, 11, 13, 14, 15, 58, 59, 60, 68, 69], 2, [], fun σ => ∃ (t : Nat) (b : Bst), t ≤ d ∧ s.askF l m ps (askT d p t) s.b0 = b ∧
      σ = ⟨[(2, .int .i64 m), (8, .int .i64 b.at'), (9, .int .i64 b.tide), (10, .int .i64 b.kind), (11, .int .i64 b.n), (13, .loc 1 0), (14, .int .i64 p), (15, .int .i64 ps[p]), (58, .list 1 (ps.map encI)), (59, .int .i64 (ps.map encI).length), (60, .int .i64 p), (68, .int .i64 (s.drifts.map Sp.enc).length), (69, .int .i64 t)], [.flat false s.enc, .flat false (s.encS l ((fnd l : Nat) : Int))], .non⟩,
      fun σ => (1000 - slotI 69 σ).toNat, rfl, ⟨rfl, rfl⟩, ⟨0, b, Nat.zero_le _, by rw [askT_zero]; exact hb, rfl⟩, ?_⟩
    clear hb
    rintro σ ⟨t, b, ht, hb, rfl⟩
    refine ⟨fun h6 => ?_, fun h6 => ?_⟩
    · have h6 := of_decide_eq_true h6
      rw [hdml] at h6
      refine ⟨[2, 8, 9, 10, 11, 13, 14, 15, 16, 58, 59, 60, 68, 69, 72], 2, [], fun σ => ∃ (k : Nat) (b : Bst), k ≤ 2 ∧ s.askF l m ps (askK d p t k) s.b0 = b ∧
        σ = ⟨[(2, .int .i64 m), (8, .int .i64 b.at'), (9, .int .i64 b.tide), (10, .int .i64 b.kind), (11, .int .i64 b.n), (13, .loc 1 0), (14, .int .i64 p), (15, .int .i64 ps[p]), (16, .int .i64 t), (58, .list 1 (ps.map encI)), (59, .int .i64 (ps.map encI).length), (60, .int .i64 p), (68, .int .i64 (s.drifts.map Sp.enc).length), (69, .int .i64 t), (72, .int .i64 k)], [.flat false s.enc, .flat false (s.encS l ((fnd l : Nat) : Int))], .non⟩,
        fun σ => (1000 - slotI 72 σ).toNat, rfl, ⟨rfl, rfl⟩, ⟨0, b, Nat.zero_le _, by rw [askK_zero]; exact hb, rfl⟩, ?_⟩
      clear hb
      rintro σ ⟨k, b, hk, hb, rfl⟩
      refine ⟨fun h7 => ?_, fun h7 => ?_⟩
      · have h7 : (k : Int) < 2 := of_decide_eq_true h7
        have hx : s.okX (smp0 ps[p] t k) := ⟨⟨Int.natCast_nonneg _, by show (t : Int) < _; omega⟩, ⟨Int.natCast_nonneg _, by show (k : Int) ≤ 1; omega⟩, hpv⟩
        have h72 := den75 s l hok hl8 (fnd l) (by omega) m (by omega) (smp0 ps[p] t k) hx rfl
        have hla : s.leftN l (fnd l) m (smp0 ps[p] t k) = s.leftAt l m ps (p, t, k) := by unfold Sh.leftAt; rw [hdp]
        rw [hla] at h72
        have hle := leftAt_le s l m ps (p, t, k)
        have hnext : s.askF l m ps (askK d p t (k + 1)) s.b0 = b.upd p t k (s.leftAt l m ps (p, t, k)) := by rw [askK_succ, askF_snoc, hb]
        obtain ⟨v, hv⟩ : ∃ v, s.leftAt l m ps (p, t, k) = v := ⟨_, rfl⟩
        rw [hv] at h72 hnext
        have less : (1000 - ((k : Int) + 1)).toNat < (1000 - (k : Int)).toNat := by omega
        refine ⟨_, rfl, _, h72, ?_⟩
        refine ⟨fun h8 => ?_, fun h8 => ?_⟩
        · have h8 : (v : Int) < b.n := of_decide_eq_true h8
          refine ⟨(k : Int) + 1, wrap64 (by omega) (by omega), ?_⟩
          exact ⟨⟨rfl, rfl⟩, ⟨k + 1, ⟨p, t, k, v⟩, by omega, by rw [hnext, Bst.upd, if_pos h8], rfl⟩, less⟩
        · have h8 : ¬ (v : Int) < b.n := of_decide_eq_false h8
          refine ⟨(k : Int) + 1, wrap64 (by omega) (by omega), ?_⟩
          exact ⟨⟨rfl, rfl⟩, ⟨k + 1, b, by omega, by rw [hnext, Bst.upd, if_neg h8], rfl⟩, less⟩
      · have h7 : ¬ (k : Int) < 2 := of_decide_eq_false h7
        have hk2 : k = 2 := by omega
        have hb : s.askF l m ps (askT d p (t + 1)) s.b0 = b := by rw [← askK_end, ← hb, hk2]
        refine ⟨(t : Int) + 1, wrap64 (by omega) (by omega), ?_⟩
        exact ⟨⟨rfl, rfl⟩, ⟨t + 1, b, by omega, hb, rfl⟩, by show (1000 - ((t : Int) + 1)).toNat < (1000 - (t : Int)).toNat; omega⟩
    · have h6 := of_decide_eq_false h6
      rw [hdml] at h6
      have htd : t = d := by omega
      have hb : s.askF l m ps (askP d (p + 1)) s.b0 = b := by rw [← askT_end, ← hb, htd]
      refine ⟨(p : Int) + 1, wrap64 (by omega) (by omega), ?_⟩
      exact ⟨⟨rfl, rfl⟩, ⟨p + 1, b, by omega, hb, rfl⟩, by show (1000 - ((p : Int) + 1)).toNat < (1000 - (p : Int)).toNat; omega⟩
  · have h5 := of_decide_eq_false h5
    rw [encI_len] at h5
    have hpe : p = ps.length := by omega
    show some (askD b 0) = some (askD (s.askF l m ps (askP d ps.length) s.b0) 0)
    rw [← hpe, hb]

end Go.Proofs.Water

namespace Go.Proofs.Water
open Go.V Go.Proofs Go.Proofs.Top

theorem sum_const {α : Type} (c : Nat) : ∀ l : List α, (l.map fun _ => c).sum = l.length * c
  | [] => by simp
  | a :: r => by
    rw [List.map_cons, List.sum_cons, sum_const c r, List.length_cons, Nat.add_mul]
    omega
theorem prefY_len (m y : Nat) : (prefY m y).length = y * (2 * m) := by
  unfold prefY
  rw [List.length_flatMap]
  have : (fun y : Nat => ((List.range 2).flatMap fun k => (List.range m).map fun t => (y, k, t)).length) = fun _ => 2 * m := by
    funext y
    rw [List.length_flatMap]
    simp [List.range_succ]
    omega
  rw [this, sum_const, List.length_range]
theorem prefT_len (m y k t : Nat) (hk : k ≤ 2) (ht : t ≤ m) : (prefT m y k t).length ≤ (y + 1) * (2 * m) + m := by
  have h1 := prefY_len m y
  unfold prefT prefK
  rw [List.length_append, List.length_append, h1]
  have h2 : ((List.range k).flatMap fun k => (List.range m).map fun t => (y, k, t)).length = k * m := by
    rw [List.length_flatMap]
    have : (fun k : Nat => ((List.range m).map fun t => (y, k, t)).length) = fun _ => m := by
      funext k
      simp
    rw [this, sum_const, List.length_range]
  rw [h2]
  simp only [List.length_map, List.length_range]
  have h3 : k * m ≤ 2 * m := Nat.mul_le_mul_right m hk
  have h4 : (y + 1) * (2 * m) = y * (2 * m) + 2 * m := by rw [Nat.add_mul]; omega
  omega

/-- The spills that there can be, of the yards of a set. -/
def Sh.mayB (s : Sh) (ys : Nat) (q : Q) : Bool := ys.testBit q.1 && (s.kindsY q.1).testBit q.2.1
def Sh.spl (s : Sh) (ys : Nat) (L : List Q) : List Q := L.filter (s.mayB ys)
def rowQ (q : Q) : List D := encQ q.1 q.2.1 q.2.2
def Sh.spills (s : Sh) (ys : Nat) : List Q := s.spl ys (prefY s.drifts.length s.yards.length)

theorem spl_add {s : Sh} {ys m y k t : Nat} (h : s.mayB ys (y, k, t) = true) : s.spl ys (prefT m y k (t + 1)) = s.spl ys (prefT m y k t) ++ [(y, k, t)] := by
  unfold Sh.spl
  rw [prefT_succ, List.filter_append]
  simp [h]
theorem spl_skip {s : Sh} {ys m y k t : Nat} (h : s.mayB ys (y, k, t) = false) : s.spl ys (prefT m y k (t + 1)) = s.spl ys (prefT m y k t) := by
  unfold Sh.spl
  rw [prefT_succ, List.filter_append]
  simp [h]

set_option maxRecDepth 4000 in
set_option maxHeartbeats 2000000 in
theorem den54 (s : Sh) (hv : s.Valid) (ys : Nat) (hys : ys < 2 ^ 60) : DN 54 [.agg s.enc, .int .i64 ys] (.list 3 ((s.spills ys).map rowQ)) := by
  refine mk Tryz.func54 Tryz.call54 rfl rfl ?_
  have hdl := hv.dl
  have hyl := hv.yl
  obtain ⟨m, hm⟩ : ∃ m, s.drifts.length = m := ⟨_, rfl⟩
  have hml : ((s.drifts.map Sp.enc).length : Int) = m := by rw [sp_len, hm]
  have hsp : s.spills ys = s.spl ys (prefY m s.yards.length) := by rw [← hm]; rfl
  rw [hsp]
  rw [hm] at hdl
  refine ⟨[1, 2, 5, 6], 1, [(.slot 5, 3)], fun σ => ∃ y g : Nat, y ≤ s.yards.length ∧
    σ = ⟨[(1, .int .i64 ys), (2, .loc 0 0), (5, .sl 1 g 0 ((s.spl ys (prefY m y)).map rowQ).length), (6, .int .i64 y)], [.flat false s.enc, .rows false g 3 ((s.spl ys (prefY m y)).map rowQ)], .non⟩,
    fun σ => (1000 - slotI 6 σ).toNat, rfl, ⟨rfl, rfl⟩, ⟨0, 0, Nat.zero_le _, rfl⟩, ?_⟩
  rintro σ ⟨y, g, hy, rfl⟩
  refine ⟨fun h1 => ?_, fun h1 => ?_⟩
  · have h1 := of_decide_eq_true h1
    rw [yd_len] at h1
    have hy' : y < s.yards.length := by omega
    obtain ⟨x, hxx⟩ : ∃ x, s.yards[y] = x := ⟨_, rfl⟩
    have hrow : (s.yards.map Yd.enc)[((y : Int)).toNat]? = some (x.enc) := by simp [hy', hxx]
    obtain ⟨hk1, hk2⟩ := kindsY_get hv hy'
    rw [hxx] at hk1
    refine ⟨[1, 2, 5, 6, 7], 2, [], fun σ => ∃ k g : Nat, k ≤ 2 ∧
      σ = ⟨[(1, .int .i64 ys), (2, .loc 0 0), (5, .sl 1 g 0 ((s.spl ys (prefK m y k)).map rowQ).length), (6, .int .i64 y), (7, .int .i64 k)], [.flat false s.enc, .rows false g 3 ((s.spl ys (prefK m y k)).map rowQ)], .non⟩,
      fun σ => (1000 - slotI 7 σ).toNat, rfl, ⟨rfl, rfl⟩, ⟨0, g, Nat.zero_le _, by rw [prefK_zero]; rfl⟩, ?_⟩
    rintro σ ⟨k, g, hk, rfl⟩
    refine ⟨fun h2 => ?_, fun h2 => ?_⟩
    · have h2 : (k : Int) < 2 := of_decide_eq_true h2
      refine ⟨[1, 2, 5, 6, 7, 8], 2, [], fun σ => ∃ t g : Nat, t ≤ m ∧
        σ = ⟨[(1, .int .i64 ys), (2, .loc 0 0), (5, .sl 1 g 0 ((s.spl ys (prefT m y k t)).map rowQ).length), (6, .int .i64 y), (7, .int .i64 k), (8, .int .i64 t)], [.flat false s.enc, .rows false g 3 ((s.spl ys (prefT m y k t)).map rowQ)], .non⟩,
        fun σ => (1000 - slotI 8 σ).toNat, rfl, ⟨rfl, rfl⟩, ⟨0, g, Nat.zero_le _, by rw [prefT_zero]; rfl⟩, ?_⟩
      rintro σ ⟨t, g, ht, rfl⟩
      refine ⟨fun h3 => ?_, fun h3 => ?_⟩
      · have h3 := of_decide_eq_true h3
        rw [hml] at h3
        have ht' : t < m := by omega
        have less : (1000 - ((t : Int) + 1)).toNat < (1000 - (t : Int)).toNat := by omega
        have h46 := den55 (s.kindsY y) k (by omega) (by omega)
        rw [← hk1] at h46
        have hlen : ((s.spl ys (prefT m y k t)).map rowQ).length ≤ 1000 := by
          have h5 := prefT_len m y k t hk ht
          have h6 : (s.spl ys (prefT m y k t)).length ≤ (prefT m y k t).length := List.length_filter_le _ _
          have h7 : (y + 1) * (2 * m) ≤ 6 * (2 * m) := Nat.mul_le_mul_right _ (by omega)
          rw [List.length_map]; omega
        refine ⟨_, rfl, _, den55 ys y (by omega) (by omega), ?_⟩
        refine ⟨fun h4 => ?_, fun h4 => ?_⟩
        · have h4 : ys.testBit y = true := h4
          refine ⟨by omega, _, hrow, ?_⟩
          refine ⟨_, rfl, _, h46, ?_⟩
          refine ⟨fun h5 => ?_, fun h5 => ?_⟩
          · have h5 : (s.kindsY y).testBit k = true := h5
            have hs : s.mayB ys (y, k, t) = true := by unfold Sh.mayB; rw [h4, h5]; rfl
            have hcat : (s.spl ys (prefT m y k t)).map rowQ ++ [[D.int .i64 y, .int .i64 k, .int .i64 t]] = (s.spl ys (prefT m y k (t + 1))).map rowQ := by rw [spl_add hs]; simp [rowQ, encQ]
            refine ⟨trivial, iff' (by rw [beq_self]; rfl) ⟨rfl, ?_, _, hcat, ?_⟩⟩
            · show (_ + 1) * 24 ≤ mostBytes; unfold mostBytes; omega
            refine ⟨(t : Int) + 1, wrap64 (by omega) (by omega), ?_⟩
            exact ⟨⟨rfl, rfl⟩, ⟨t + 1, g + 1, by omega, rfl⟩, less⟩
          · have h5 : (s.kindsY y).testBit k = false := h5
            have hs : s.mayB ys (y, k, t) = false := by unfold Sh.mayB; rw [h4, h5]; rfl
            refine ⟨(t : Int) + 1, wrap64 (by omega) (by omega), ?_⟩
            exact ⟨⟨rfl, rfl⟩, ⟨t + 1, g, by omega, by rw [spl_skip hs]; rfl⟩, less⟩
        · have h4 : ys.testBit y = false := h4
          have hs : s.mayB ys (y, k, t) = false := by unfold Sh.mayB; rw [h4]; rfl
          refine ⟨(t : Int) + 1, wrap64 (by omega) (by omega), ?_⟩
          exact ⟨⟨rfl, rfl⟩, ⟨t + 1, g, by omega, by rw [spl_skip hs]; rfl⟩, less⟩
      · have h3 := of_decide_eq_false h3
        rw [hml] at h3
        have htm : t = m := by omega
        have eT : prefT m y k t = prefK m y (k + 1) := by rw [htm, prefT_end]
        refine ⟨(k : Int) + 1, wrap64 (by omega) (by omega), ?_⟩
        exact ⟨⟨rfl, rfl⟩, ⟨k + 1, g, by omega, by rw [← eT]; rfl⟩, by show (1000 - ((k : Int) + 1)).toNat < (1000 - (k : Int)).toNat; omega⟩
    · have h2 : ¬ (k : Int) < 2 := of_decide_eq_false h2
      have hk2 : k = 2 := by omega
      have eK : prefK m y k = prefY m (y + 1) := by rw [hk2, prefK_end]
      refine ⟨(y : Int) + 1, wrap64 (by omega) (by omega), ?_⟩
      exact ⟨⟨rfl, rfl⟩, ⟨y + 1, g, by omega, by rw [← eK]; rfl⟩, by show (1000 - ((y : Int) + 1)).toNat < (1000 - (y : Int)).toNat; omega⟩
  · have h1 := of_decide_eq_false h1
    rw [yd_len] at h1
    have hye : y = s.yards.length := by omega
    rw [← hye]
    show reify [.flat false s.enc, .rows false g 3 ((s.spl ys (prefY m y)).map rowQ)] 8 (.sl 1 g 0 ((s.spl ys (prefY m y)).map rowQ).length) = _
    exact reify_sl rfl rfl

/-- A spill is in no sample in which nothing was found. -/
def Sh.clear (s : Sh) (d : List Int) (l : List Smp) (q : Q) : Bool := l.all fun x => x.found || !(s.inS d q.1 q.2.1 q.2.2 x)

end Go.Proofs.Water

namespace Go.Proofs.Water
open Go.V Go.Proofs Go.Proofs.Top

def Sh.hits (s : Sh) (d : List Int) (l : List Smp) (x : Smp) (q : Q) : Bool := s.inS d q.1 q.2.1 q.2.2 x && s.clear d l q
def Sh.isE (s : Sh) (d : List Int) (l : List Smp) (L : List Q) (x : Smp) : Bool := !x.found || L.any (s.hits d l x)
/-- Spills of the yards of a set explain all samples, if water drifts so. -/
def Sh.expl1 (s : Sh) (d : List Int) (l : List Smp) (ys : Nat) : Bool := l.all (s.isE d l (s.spills ys))

theorem spills_mem {s : Sh} {ys : Nat} {q : Q} (h : q ∈ s.spills ys) : q.1 < s.yards.length ∧ q.2.1 < 2 ∧ q.2.2 < s.drifts.length :=
  prefY_mem.1 (List.mem_filter.1 h).1
theorem spills_len {s : Sh} (hv : s.Valid) (ys : Nat) : (s.spills ys).length ≤ 30 := by
  have h1 : (s.spills ys).length ≤ (prefY s.drifts.length s.yards.length).length := List.length_filter_le _ _
  rw [prefY_len] at h1
  have := hv.yl
  have := hv.dl
  have h2 : s.yards.length * (2 * s.drifts.length) ≤ 5 * (2 * 3) := Nat.mul_le_mul (by omega) (by omega)
  omega

end Go.Proofs.Water

namespace Go.Proofs.Water
open Go.V Go.Proofs Go.Proofs.Top

def extS (b : Sp) (d : List Int) : List (List Int) := (rng b).map fun n => d ++ [n]
/-- All drifts, made from the first tide on. -/
def drsS (l : List Sp) : List (List Int) := l.foldl (fun S b => S.flatMap (extS b)) [[]]
theorem drsS_snoc (l : List Sp) (b : Sp) : drsS (l ++ [b]) = (drsS l).flatMap (extS b) := by unfold drsS; rw [List.foldl_append]; rfl

theorem dAt_app {c : List Int} {n : Int} {i : Nat} : dAt (c ++ [n]) i = if i < c.length then dAt c i else if i = c.length then n else 0 := by
  unfold dAt
  rcases Nat.lt_trichotomy i c.length with h | h | h
  · rw [if_pos h, List.getElem?_append_left h]
  · subst h; simp
  · rw [if_neg (by omega), if_neg (by omega), List.getElem?_eq_none (by simp; omega)]
theorem drsS_take {l : List Sp} : ∀ (t : Nat), t ≤ l.length → ∀ c, c ∈ drsS (l.take t) ↔ (c.length = t ∧ ∀ i b, i < t → l[i]? = some b → b.lo ≤ dAt c i ∧ dAt c i ≤ b.hi)
  | 0, _, c => by
    simp only [List.take_zero, drsS, List.foldl_nil, List.mem_singleton]
    exact ⟨fun h => by subst h; exact ⟨rfl, fun i b hi => by omega⟩, fun h => List.eq_nil_of_length_eq_zero h.1⟩
  | t + 1, ht, c => by
    have ih := drsS_take (l := l) t (by omega)
    have htl : t < l.length := by omega
    rw [List.take_succ_eq_append_getElem htl, drsS_snoc]
    simp only [List.mem_flatMap, extS, List.mem_map]
    constructor
    · rintro ⟨d, hd, n, hn, rfl⟩
      obtain ⟨h1, h2⟩ := (ih d).1 hd
      refine ⟨by simp [h1], fun i b hi hb => ?_⟩
      rw [dAt_app, h1]
      by_cases hit : i < t
      · rw [if_pos hit]; exact h2 i b hit hb
      · have : i = t := by omega
        subst this
        rw [if_neg hit, if_pos rfl]
        rw [List.getElem?_eq_getElem htl] at hb
        cases hb
        exact rng_mem.1 hn
    · rintro ⟨h1, h2⟩
      have hc : c = c.take t ++ [dAt c t] := by
        have h3 : t < c.length := by omega
        rw [dAt_get h3, ← List.take_succ_eq_append_getElem h3, ← h1, List.take_length]
      refine ⟨c.take t, (ih _).2 ⟨by rw [List.length_take]; omega, fun i b hi hb => ?_⟩, dAt c t, ?_, hc.symm⟩
      · have h4 := h2 i b (by omega) hb
        have h5 : dAt (c.take t) i = dAt c i := by unfold dAt; rw [List.getElem?_take, if_pos hi]
        rw [h5]; exact h4
      · exact rng_mem.2 (h2 t _ (by omega) (List.getElem?_eq_getElem htl))
theorem drsS_mem {l : List Sp} {c : List Int} : c ∈ drsS l ↔ c ∈ drs l := by
  have h := drsS_take (l := l) l.length (Nat.le_refl _) c
  rw [List.take_length] at h
  rw [h]
  constructor
  · rintro ⟨h1, h2⟩
    exact drs_in h1 fun i b hb => h2 i b (List.getElem?_eq_some_iff.1 hb).1 hb
  · intro h1
    obtain ⟨h2, h3⟩ := drs_mem h1
    exact ⟨h2, fun i b _ hb => h3 i b hb⟩

def encL : List Int → D
  | [] => .nils
  | a :: r => .list 1 ((a :: r).map encI)
def rowL (c : List Int) : List D := [encL c]
theorem encL_app (c : List Int) (n : Int) : encL (c ++ [n]) = .list 1 ((c ++ [n]).map encI) := by
  cases c <;> rfl

theorem fzs_seal {σ : St} {lo t i g sz0 sz : Nat} {fz : Bool} {rs : List (List D)} (h : V.look σ.tmps t = some (.sl i g 0 rs.length)) (hb : σ.boxes[i]? = some (.rows fz g sz rs)) :
    St.fzs σ lo [(.asList t, sz0)] = ⟨putIn σ.tmps t (.list sz rs), freezeIn σ.boxes 0 [i], σ.y⟩ := by
  unfold St.fzs
  rw [h]
  simp only
  have hr : reify σ.boxes fuel (.sl i g 0 rs.length) = some (.list sz rs) := reify_sl hb rfl
  rw [hr]
  rfl

theorem reifyP_one {bs : List Box} {i : Nat} {d e : D} (h : reify bs fuel d = some e) : reifyP bs [(i, d)] = some [(i, e)] := by simp only [reifyP, h]

theorem flat_len {α : Type} {f : α → List (List Int)} {k : Nat} : ∀ {L : List α}, (∀ a ∈ L, (f a).length ≤ k) → (L.flatMap f).length ≤ L.length * k
  | [], _ => by simp
  | a :: r, h => by
    have h1 := h a (by simp)
    have h2 := flat_len (L := r) fun b hb => h b (by simp [hb])
    rw [List.flatMap_cons, List.length_append, List.length_cons, Nat.add_mul]
    omega
theorem ext_len {s : Sh} (hv : s.Valid) {b : Sp} (hb : b ∈ s.drifts) (d : List Int) : (extS b d).length ≤ 7 := by
  unfold extS
  rw [List.length_map, rng_len]
  have := hv.d b hb
  omega
theorem drsS_len {s : Sh} (hv : s.Valid) : ∀ t, t ≤ 3 → (drsS (s.drifts.take t)).length ≤ 7 ^ t
  | 0, _ => by simp [drsS]
  | t + 1, ht => by
    have ih := drsS_len hv t (by omega)
    by_cases htl : t < s.drifts.length
    · rw [List.take_succ_eq_append_getElem htl, drsS_snoc]
      have h1 := flat_len (L := drsS (s.drifts.take t)) (f := extS s.drifts[t]) (k := 7) fun d _ => ext_len hv (List.getElem_mem htl) d
      rw [Nat.pow_succ]
      exact Nat.le_trans h1 (Nat.mul_le_mul_right 7 ih)
    · rw [List.take_of_length_le (by omega)]
      rw [List.take_of_length_le (by omega)] at ih
      exact Nat.le_trans ih (Nat.pow_le_pow_right (by decide) (by omega))

end Go.Proofs.Water

namespace Go.Proofs.Water
open Go.V Go.Proofs Go.Proofs.Top

theorem foundAt_get {l : List Smp} {i : Nat} {x : Smp} (h : l[i]? = some x) : foundAt l i = x.found := by unfold foundAt; rw [h]
theorem fnd_bit (l : List Smp) (i : Nat) : (fnd l).testBit i = foundAt l i := by
  unfold fnd
  rw [setOf_bit]
  by_cases h : i < l.length
  · simp [h]
  · have : foundAt l i = false := by unfold foundAt; rw [List.getElem?_eq_none (by omega)]
    simp [this]
theorem inSet_bit (s : Sh) (d : List Int) (y k t : Nat) (l : List Smp) (i : Nat) : (s.inSet d y k t l).testBit i = s.inAt d y k t l i := by
  unfold Sh.inSet
  rw [setOf_bit]
  by_cases h : i < l.length
  · simp [h]
  · have : s.inAt d y k t l i = false := by unfold Sh.inAt; rw [List.getElem?_eq_none (by omega)]
    simp [this]
theorem inAt_get {s : Sh} {d : List Int} {y k t : Nat} {l : List Smp} {i : Nat} {x : Smp} (h : l[i]? = some x) : s.inAt d y k t l i = s.inS d y k t x := by unfold Sh.inAt; rw [h]

theorem zero_of_bits {a : Nat} (h : ∀ i, a.testBit i = false) : a = 0 := Nat.eq_of_testBit_eq fun i => by rw [h i]; simp

theorem clear_eq (s : Sh) (d : List Int) (l : List Smp) (q : Q) : s.clear d l q = (diff (s.inSet d q.1 q.2.1 q.2.2 l) (fnd l) == 0) := by
  apply Bool.eq_iff_iff.2
  unfold Sh.clear
  rw [List.all_eq_true, beq_iff_eq]
  constructor
  · intro h
    refine zero_of_bits fun i => ?_
    rw [diff_bit, inSet_bit, fnd_bit]
    cases hi : l[i]? with
    | none => unfold Sh.inAt; rw [hi]; rfl
    | some x =>
      rw [inAt_get hi, foundAt_get hi]
      have := h x (List.mem_of_getElem? hi)
      revert this
      cases x.found <;> cases s.inS d q.1 q.2.1 q.2.2 x <;> simp
  · intro h x hx
    obtain ⟨i, hi⟩ := List.mem_iff_getElem?.1 hx
    have h1 := diff_bit (s.inSet d q.1 q.2.1 q.2.2 l) (fnd l) i
    rw [h, inSet_bit, fnd_bit, inAt_get hi, foundAt_get hi] at h1
    revert h1
    simp
    cases x.found <;> cases s.inS d q.1 q.2.1 q.2.2 x <;> simp

theorem es_mem {s : Sh} {d : List Int} {l : List Smp} {q : Q} : q ∈ s.es d l (fnd l) ↔ q ∈ prefY s.drifts.length s.yards.length ∧ (s.kindsY q.1).testBit q.2.1 = true ∧ s.inSet d q.1 q.2.1 q.2.2 l ≠ 0 ∧ s.clear d l q = true := by
  unfold Sh.es Sh.sees
  rw [List.mem_filter, clear_eq]
  simp only [Bool.and_eq_true, Bool.not_eq_true', beq_eq_false_iff_ne, ne_eq]
theorem spills_iff {s : Sh} {ys : Nat} {q : Q} : q ∈ s.spills ys ↔ q ∈ prefY s.drifts.length s.yards.length ∧ ys.testBit q.1 = true ∧ (s.kindsY q.1).testBit q.2.1 = true := by
  unfold Sh.spills Sh.spl Sh.mayB
  rw [List.mem_filter, Bool.and_eq_true]

theorem ne_zero_bit {a i : Nat} (h : a.testBit i = true) : a ≠ 0 := fun e => by rw [e] at h; simp at h

/-- Explained, as the program finds out and as the reference does. -/
theorem agr_eq {s : Sh} {d : List Int} {l : List Smp} (hl : l.length ≤ 8) (ys : Nat) : s.agr d l (fnd l) ys = s.expl1 d l ys := by
  apply Bool.eq_iff_iff.2
  unfold Sh.agr Sh.unc Sh.expl1
  rw [beq_iff_eq, List.all_eq_true]
  constructor
  · intro h x hx
    obtain ⟨i, hi⟩ := List.mem_iff_getElem?.1 hx
    have hil : i < l.length := (List.getElem?_eq_some_iff.1 hi).1
    unfold Sh.isE
    cases hf : x.found with
    | false => rfl
    | true =>
      have h1 := setOf_bit (fun i => (fnd l).testBit i && !((s.es d l (fnd l)).any (s.covs d l ys i))) 60 i
      rw [h, fnd_bit, foundAt_get hi, hf] at h1
      have h60 : decide (i < 60) = true := decide_eq_true (by omega)
      rw [h60] at h1
      have h2 : (s.es d l (fnd l)).any (s.covs d l ys i) = true := by simpa using h1
      obtain ⟨q, hq, hc⟩ := List.any_eq_true.1 h2
      unfold Sh.covs at hc
      rw [Bool.and_eq_true, inSet_bit, inAt_get hi] at hc
      obtain ⟨e1, e2, e3, e4⟩ := es_mem.1 hq
      rw [Bool.not_true, Bool.false_or, List.any_eq_true]
      exact ⟨q, spills_iff.2 ⟨e1, hc.1, e2⟩, by unfold Sh.hits; rw [hc.2, e4]; rfl⟩
  · intro h
    refine zero_of_bits fun i => ?_
    rw [setOf_bit, fnd_bit]
    cases hi : l[i]? with
    | none => unfold foundAt; rw [hi]; simp
    | some x =>
      rw [foundAt_get hi]
      have h1 := h x (List.mem_of_getElem? hi)
      unfold Sh.isE at h1
      cases hf : x.found with
      | false => simp
      | true =>
        rw [hf, Bool.not_true, Bool.false_or, List.any_eq_true] at h1
        obtain ⟨q, hq, hh⟩ := h1
        unfold Sh.hits at hh
        rw [Bool.and_eq_true] at hh
        obtain ⟨e1, e2, e3⟩ := spills_iff.1 hq
        have hb : (s.inSet d q.1 q.2.1 q.2.2 l).testBit i = true := by rw [inSet_bit, inAt_get hi]; exact hh.1
        have h2 : (s.es d l (fnd l)).any (s.covs d l ys i) = true := List.any_eq_true.2 ⟨q, es_mem.2 ⟨e1, e3, ne_zero_bit hb, hh.2⟩, by unfold Sh.covs; rw [e2, hb]; rfl⟩
        simp [h2]

/-- A yard can be in a sample, in one way to drift. -/
def Sh.canAt (s : Sh) (d : List Int) (l : List Smp) (x : Smp) (y : Nat) : Bool := s.expl1 d l s.all && (s.spills s.all).any fun q => q.1 == y && s.hits d l x q

theorem and_bit {a i : Nat} : (a &&& 2 ^ i) ≠ 0 ↔ a.testBit i = true := by
  constructor
  · intro h
    cases hb : a.testBit i with
    | true => rfl
    | false =>
      refine absurd (zero_of_bits fun j => ?_) h
      rw [Nat.testBit_and, pow_bit]
      by_cases hj : j = i
      · subst hj; rw [hb]; rfl
      · simp [hj]
  · intro h e
    have := congrArg (·.testBit i) e
    simp only [Nat.testBit_and, pow_bit, h] at this
    simp at this

theorem bits_ne {a : Nat} (h : a ≠ 0) : ∃ i, a.testBit i = true := by
  cases Classical.em (∃ i, a.testBit i = true) with
  | inl h => exact h
  | inr h1 =>
    refine absurd (zero_of_bits fun i => ?_) h
    cases hb : a.testBit i with
    | false => rfl
    | true => exact absurd ⟨i, hb⟩ h1

theorem can_bit {s : Sh} (hv : s.Valid) {l : List Smp} (hl : l.length ≤ 8) (sm y : Nat) :
    (s.can l sm).testBit y = true ↔ ∃ d ∈ drs s.drifts, ∃ i x, l[i]? = some x ∧ sm.testBit i = true ∧ s.canAt d l x y = true := by
  unfold Sh.can Sh.canF
  rw [canP_bit, Bool.and_eq_true, decide_eq_true_eq, List.any_eq_true]
  constructor
  · rintro ⟨hy, d, hd, h⟩
    obtain ⟨hd1, hd2⟩ := List.mem_filter.1 hd
    rw [agr_eq hl] at hd2
    obtain ⟨q, hq, hc⟩ := List.any_eq_true.1 h
    unfold Sh.canE at hc
    rw [Bool.and_eq_true, Bool.not_eq_true', beq_eq_false_iff_ne] at hc
    obtain ⟨i, hi⟩ := bits_ne hc.2
    rw [Nat.testBit_and, Bool.and_eq_true, inSet_bit] at hi
    obtain ⟨e1, e2, e3, e4⟩ := es_mem.1 hq
    cases hx : l[i]? with
    | none => have := hi.1; unfold Sh.inAt at this; rw [hx] at this; cases this
    | some x =>
      rw [inAt_get hx] at hi
      refine ⟨d, hd1, i, x, hx, hi.2, ?_⟩
      unfold Sh.canAt
      rw [hd2, Bool.true_and, List.any_eq_true]
      have hq1 := (prefY_mem (k := q.2.1) (t := q.2.2).1 e1).1
      exact ⟨q, spills_iff.2 ⟨e1, by rw [all_bit]; exact decide_eq_true hq1, e2⟩, by rw [hc.1]; unfold Sh.hits; rw [hi.1, e4]; rfl⟩
  · rintro ⟨d, hd, i, x, hx, hsm, hc⟩
    unfold Sh.canAt at hc
    rw [Bool.and_eq_true, List.any_eq_true] at hc
    obtain ⟨h1, q, hq, hh⟩ := hc
    rw [Bool.and_eq_true] at hh
    unfold Sh.hits at hh
    rw [Bool.and_eq_true] at hh
    obtain ⟨e1, e2, e3⟩ := spills_iff.1 hq
    have hq1 := (prefY_mem (k := q.2.1) (t := q.2.2).1 e1).1
    have hqy : q.1 = y := by simpa using hh.1
    have hb : (s.inSet d q.1 q.2.1 q.2.2 l).testBit i = true := by rw [inSet_bit, inAt_get hx]; exact hh.2.1
    have := hv.yl
    refine ⟨by omega, d, List.mem_filter.2 ⟨hd, by rw [agr_eq hl]; exact h1⟩, List.any_eq_true.2 ⟨q, es_mem.2 ⟨e1, e3, ne_zero_bit hb, hh.2.2⟩, ?_⟩⟩
    unfold Sh.canE
    rw [Bool.and_eq_true, Bool.not_eq_true', beq_eq_false_iff_ne]
    refine ⟨hh.1, ne_zero_bit (i := i) ?_⟩
    rw [Nat.testBit_and, hb, hsm]; rfl

theorem expl_eq {s : Sh} {l : List Smp} (hl : l.length ≤ 8) (ys : Nat) : s.expl l ys = (drsS s.drifts).any fun d => s.expl1 d l ys := by
  unfold Sh.expl Sh.explF
  apply Bool.eq_iff_iff.2
  simp only [List.any_eq_true, agr_eq hl, drsS_mem]

end Go.Proofs.Water

namespace Go.Proofs.Water
open Go.V Go.Proofs Go.Proofs.Top

theorem drsS_ne {s : Sh} (hv : s.Valid) {d : List Int} (h : d ∈ drsS s.drifts) : Drf s d ∧ encL d = .list 1 (d.map encI) := by
  have h1 := drsS_mem.1 h
  have h2 := drf_of hv h1
  refine ⟨h2, ?_⟩
  cases d with
  | nil => have h3 : 0 = s.drifts.length := h2.len; have := hv.dl; omega
  | cons a r => rfl
theorem drsS_le {s : Sh} (hv : s.Valid) : (drsS s.drifts).length ≤ 343 := by
  have h := drsS_len hv 3 (Nat.le_refl 3)
  have := hv.dl
  rw [List.take_of_length_le (by omega)] at h
  exact h

theorem add_bit5 : ∀ a : Nat, a < 32 → ∀ y : Nat, y < 5 → a.testBit y = false → a + 2 ^ y = a ||| 2 ^ y := by decide +kernel

/-- The yards found so far. -/
def Sh.canS (s : Sh) (l : List Smp) (x : Smp) (L : List (List Int)) : Nat := setOf 5 fun y => L.any fun d => s.canAt d l x y
theorem canS_can {s : Sh} {l : List Smp} (h : s.Ok l) {i : Nat} {x : Smp} (hx : l[i]? = some x) : s.canS l x (drsS s.drifts) = s.can l (2 ^ i) := by
  apply Nat.eq_of_testBit_eq
  intro y
  unfold Sh.canS
  rw [setOf_bit]
  apply Bool.eq_iff_iff.2
  rw [can_bit h.v h.ll, Bool.and_eq_true, decide_eq_true_eq, List.any_eq_true]
  constructor
  · rintro ⟨_, d, hd, hc⟩
    exact ⟨d, drsS_mem.1 hd, i, x, hx, by rw [pow_bit]; simp, hc⟩
  · rintro ⟨d, hd, j, x', hx', hb, hc⟩
    rw [pow_bit] at hb
    have : j = i := by simpa using hb
    subst this
    rw [hx] at hx'; cases hx'
    refine ⟨?_, d, drsS_mem.2 hd, hc⟩
    unfold Sh.canAt at hc
    rw [Bool.and_eq_true, List.any_eq_true] at hc
    obtain ⟨_, q, hq, hh⟩ := hc
    rw [Bool.and_eq_true] at hh
    have h1 := (spills_mem hq).1
    have h2 : q.1 = y := by simpa using hh.1
    have := h.v.yl
    omega

theorem setOf_addbit {p q : Nat → Bool} {y : Nat} (hy : y < 5) (hp : p y = false) (h : ∀ z, q z = (p z || z == y)) : setOf 5 p + 2 ^ y = setOf 5 q := by
  have hb : (setOf 5 p).testBit y = false := by rw [setOf_bit, hp, Bool.and_false]
  rw [add_bit5 _ (setOf_lt p 5) y hy hb]
  apply Nat.eq_of_testBit_eq
  intro z
  rw [Nat.testBit_or, setOf_bit, setOf_bit, pow_bit, h z]
  by_cases hz : z = y
  · subst hz; simp [hy]
  · have : (z == y) = false := by simpa using hz
    simp [hz, this]

end Go.Proofs.Water

namespace Go.Proofs.Water
open Go.V Go.Proofs Go.Proofs.Top

theorem foundE_ok2 {s : Sh} {l : List Smp} {n : Int} (h : s.foundE l n = 0) : s.openE l = 0 ∧ givenE l n = 0 := by
  unfold Sh.foundE at h
  cases h1 : s.openE l == 0 with
  | true => rw [h1] at h; exact ⟨by simpa using h1, h⟩
  | false =>
    rw [h1] at h
    have : ¬ s.openE l = 0 := by simpa using h1
    exact absurd h this
theorem agreedE_ok {s : Sh} {l : List Smp} {e : Int} (h : s.agreedE l e = 0) : e = 0 ∧ s.expl l s.all = true := by
  unfold Sh.agreedE at h
  cases h1 : e == 0 with
  | true =>
    rw [h1] at h
    cases h2 : s.expl l s.all with
    | true => exact ⟨by simpa using h1, rfl⟩
    | false => rw [h2] at h; cases h
  | false =>
    rw [h1] at h
    have : ¬ e = 0 := by simpa using h1
    exact absurd h this

theorem diff_sub : ∀ n : Nat, n < 6 → ∀ y : Nat, y < n → diff (2 ^ n - 1) (2 ^ y) = 2 ^ n - 1 - 2 ^ y := by decide +kernel
theorem pow_le_all {s : Sh} {y : Nat} (hy : y < s.yards.length) : 2 ^ y ≤ s.all := by
  unfold Sh.all
  have h1 : 2 ^ y < 2 ^ s.yards.length := Nat.pow_lt_pow_right (by decide) hy
  omega

theorem bef_all : ∀ m : Nat, m < 6 → ∀ b : Nat, b < 2 ^ m → befB (yardsZ (2 ^ m - 1)) (yardsZ b) = false := by decide +kernel
theorem bestN_all {s : Sh} (hv : s.Valid) (p : Nat → Bool) : bestN p s.all (2 ^ s.yards.length) = bestN p s.all s.all := by
  have h0 : 0 < 2 ^ s.yards.length := Nat.two_pow_pos _
  have e : 2 ^ s.yards.length = s.all + 1 := by unfold Sh.all; omega
  have h1 : bestN p s.all s.all < 2 ^ s.yards.length := bestN_lt p (by omega) _ (by omega)
  rw [e]
  show (if (befB (yardsZ s.all) (yardsZ (bestN p s.all s.all)) && p s.all) = true then s.all else bestN p s.all s.all) = _
  have h2 : befB (yardsZ s.all) (yardsZ (bestN p s.all s.all)) = false := bef_all s.yards.length (by have := hv.yl; omega) _ h1
  rw [h2]; rfl

end Go.Proofs.Water

namespace Go.Proofs.Water
open Go.V Go.Proofs Go.Proofs.Top

/-- Whether a yard can be in one of the first samples with a find. -/
def Sh.srcB (s : Sh) (l : List Smp) (n y : Nat) : Bool := (List.range n).any fun i => foundAt l i && (s.can l (2 ^ i)).testBit y
theorem src_can {s : Sh} {l : List Smp} (h : s.Ok l) : setOf 5 (s.srcB l l.length) = s.can l (fnd l) := by
  apply Nat.eq_of_testBit_eq
  intro y
  rw [setOf_bit]
  apply Bool.eq_iff_iff.2
  rw [can_bit h.v h.ll, Bool.and_eq_true, decide_eq_true_eq]
  unfold Sh.srcB
  rw [List.any_eq_true]
  constructor
  · rintro ⟨hy, i, hi, hc⟩
    rw [Bool.and_eq_true, can_bit h.v h.ll] at hc
    obtain ⟨hf, d, hd, j, x, hx, hb, hcc⟩ := hc
    rw [pow_bit] at hb
    have : j = i := by simpa using hb
    subst this
    exact ⟨d, hd, j, x, hx, by rw [fnd_bit]; exact hf, hcc⟩
  · rintro ⟨d, hd, i, x, hx, hb, hc⟩
    rw [fnd_bit] at hb
    have hil : i < l.length := (List.getElem?_eq_some_iff.1 hx).1
    have hcan : (s.can l (2 ^ i)).testBit y = true := (can_bit h.v h.ll (2 ^ i) y).2 ⟨d, hd, i, x, hx, by rw [pow_bit]; simp, hc⟩
    have hy : y < 5 := by
      unfold Sh.can Sh.canF at hcan
      rw [canP_bit, Bool.and_eq_true, decide_eq_true_eq] at hcan
      exact hcan.1
    exact ⟨hy, i, List.mem_range.2 hil, by rw [hb, hcan]; rfl⟩

theorem can_lt (s : Sh) (l : List Smp) (sm : Nat) : s.can l sm < 32 := canP_lt _ _ _ _ _
theorem can_yard {s : Sh} (hv : s.Valid) {l : List Smp} (hl : l.length ≤ 8) {sm y : Nat} (h : (s.can l sm).testBit y = true) : y < s.yards.length := by
  obtain ⟨d, _, i, x, _, _, hc⟩ := (can_bit hv hl sm y).1 h
  unfold Sh.canAt at hc
  rw [Bool.and_eq_true, List.any_eq_true] at hc
  obtain ⟨_, q, hq, hh⟩ := hc
  rw [Bool.and_eq_true] at hh
  have h1 := (spills_mem hq).1
  have h2 : q.1 = y := by simpa using hh.1
  omega

end Go.Proofs.Water
