/- Which sample to take next, in the program; The reference: spills, and whether they explain samples; The reference: whether spills explain the samples; The reference: all ways in which water can drift; The plain law: the program's truths and the reference's are the same; The reference: Explain, agreed, Agree, can, Can; The reference: Can, Must, Fewest; The reference: Sources. No condition. -/
import Derived.Test.YtnedncdhnggooaaDoorPackWB

namespace Go.Proofs.Water
open Go.V Go.Proofs

def Sh.askF (s : Sh) (l : List Smp) (n : Nat) (ps : List Int) (L : List (Nat × Nat × Nat)) (b : Bst) : Bst := L.foldl (fun b q => b.upd q.1 q.2.1 q.2.2 (s.leftAt l n ps q)) b
theorem askF_snoc (s : Sh) (l : List Smp) (n : Nat) (ps : List Int) (L : List (Nat × Nat × Nat)) (q : Nat × Nat × Nat) (b : Bst) : s.askF l n ps (L ++ [q]) b = (s.askF l n ps L b).upd q.1 q.2.1 q.2.2 (s.leftAt l n ps q) := by
  unfold Sh.askF; rw [List.foldl_append]; rfl
def Sh.b0 (s : Sh) : Bst := ⟨0, 0, 0, (s.yards.length : Int) + 1⟩
/-- The error of what is asked. -/
def Sh.askE (s : Sh) (l : List Smp) (n : Int) (ps : List Int) : Int := match s.foundE l n != 0 with
  | true => s.foundE l n
  | false => match ((l.length : Int) == 8) || [(ps.length : Int)].any (outB 1 4) with
    | true => 3
    | false => match ps.any (outB 0 100) with
      | true => 7
      | false => match s.expl l s.all with | true => 0 | false => 9
def Sh.askB (s : Sh) (l : List Smp) (n : Int) (ps : List Int) : Bst := match s.askE l n ps != 0 with
  | true => ⟨0, 0, 0, 0⟩
  | false => s.askF l n.toNat ps (askP s.drifts.length ps.length) s.b0
def askD (b : Bst) (e : Int) : D := .tup [.int .i64 b.at', .int .i64 b.tide, .int .i64 b.kind, .int .i64 b.n, .int .i64 e]

theorem leftAt_le (s : Sh) (l : List Smp) (n : Nat) (ps : List Int) (q : Nat × Nat × Nat) : s.leftAt l n ps q ≤ 5 := by
  unfold Sh.leftAt Sh.leftN
  have h1 := fun x => card_le x
  exact Nat.max_le.2 ⟨h1 _, h1 _⟩

set_option maxRecDepth 4000 in
set_option maxHeartbeats 2000000 in
theorem den29 (s : Sh) (l : List Smp) (n : Int) (ps : List Int) : DN 29 [.agg s.enc, .list 4 (l.map Smp.enc), .int .i64 n, .list 1 (ps.map encI)] (askD (s.askB l n ps) (s.askE l n ps)) := by
  have h57 := den57 s l
  have bad : ∀ e, s.askE l n ps = e → e ≠ 0 → some (askD ⟨0, 0, 0, 0⟩ e) = some (askD (s.askB l n ps) (s.askE l n ps)) := fun e h h0 => by
    have : (s.askE l n ps != 0) = true := by rw [h]; simpa using h0
    unfold Sh.askB; rw [this, h]
  by_cases hf : s.foundE l n = 0
  rotate_left
  · have hfne : (s.foundE l n != 0) = true := by simpa using hf
    have hbad := bad (s.foundE l n) (by unfold Sh.askE; rw [hfne]) hf
    refine mk Tryd.func29 Tryd.call29 rfl rfl ?_
    by_cases h0 : s.openE l = 0
    · have hok := ok_of h0
      rw [opened_ok h0, h0] at h57
      rw [foundE_ok h0] at hf hbad
      refine ⟨_, rfl, _, h57, ?_⟩
      refine ⟨fun _ => ?_, (fun h => nomatch h)⟩
      refine ⟨_, rfl, _, den62 s l _ n hok.ll, ?_⟩
      obtain ⟨e, he⟩ : ∃ e, givenE l n = e := ⟨_, rfl⟩
      rw [he] at hf hbad ⊢
      refine ⟨fun _ => ?_, fun h => absurd (by simpa using h) hf⟩
      exact hbad
    · have hne : (s.openE l == 0) = false := by simpa using h0
      have hF : s.foundE l n = s.openE l := by unfold Sh.foundE; rw [hne]
      rw [hF] at hf hbad
      obtain ⟨a, b, c, yl, dl, ll, sp, f, ho⟩ := opened_form s l
      rw [ho] at h57
      obtain ⟨e, he⟩ : ∃ e, s.openE l = e := ⟨_, rfl⟩
      rw [he] at h57 h0 hbad
      refine ⟨_, rfl, _, h57, ?_⟩
      refine ⟨fun h => absurd (by simpa using h) h0, fun _ => ?_⟩
      refine ⟨fun _ => ?_, fun h => absurd (by simpa using h) h0⟩
      exact hbad
  have h0 : s.openE l = 0 := by
    unfold Sh.foundE at hf
    cases h : s.openE l == 0 with
    | true => simpa using h
    | false =>
      rw [h] at hf
      have : ¬ s.openE l = 0 := by simpa using h
      exact absurd hf this
  have hg : givenE l n = 0 := by rw [← foundE_ok h0]; exact hf
  obtain ⟨hn1, hn2, hn3⟩ := givenE_zero hg
  obtain ⟨m, rfl⟩ : ∃ m : Nat, n = m := ⟨n.toNat, by omega⟩
  have hok := ok_of h0
  have hll := hok.ll
  have hyl := hok.v.yl
  have hdl := hok.v.dl
  have hall := all_lt hok.v
  have hfl := fnd_lt hok
  have hfe : (s.foundE l m != 0) = false := by rw [hf]; rfl
  rw [opened_ok h0, h0] at h57
  refine mk Tryd.func29 Tryd.call29 rfl rfl ?_
  refine ⟨_, rfl, _, h57, ?_⟩
  refine ⟨fun _ => ?_, (fun h => nomatch h)⟩
  have h62 := den62 s l ((fnd l : Nat) : Int) m hok.ll
  rw [hg] at h62
  refine ⟨_, rfl, _, h62, ?_⟩
  refine ⟨(fun h => nomatch h), fun _ => ?_⟩
  have b3 : (((l.length : Int) == 8) || [(ps.length : Int)].any (outB 1 4)) = true → s.askE l m ps = 3 := fun h => by unfold Sh.askE; rw [hfe, h]
  refine ⟨fun h1 => ?_, fun h1 => ?_⟩
  · have h1 : ((l.length : Int) == 8) = true := by rw [← smp_lenI]; exact h1
    exact bad 3 (b3 (by rw [h1]; rfl)) (by decide)
  have h1 : ((l.length : Int) == 8) = false := by rw [← smp_lenI]; exact h1
  have hl8 : l.length < 8 := by simp at h1; omega
  refine ⟨_, rfl, _, den51 [((ps.map encI).length : Int)] 1 4 (by simp), ?_⟩
  refine ⟨fun h2 => ?_, fun h2 => ?_⟩
  · have h2 : [(ps.length : Int)].any (outB 1 4) = true := by rw [← encI_len]; exact h2
    exact bad 3 (b3 (by rw [h1, h2]; rfl)) (by decide)
  have h2 : [(ps.length : Int)].any (outB 1 4) = false := by rw [← encI_len]; exact h2
  have hpl : ps.length ≤ 4 := by simp [outB] at h2; omega
  refine ⟨_, rfl, _, den51 ps 0 100 (by omega), ?_⟩
  refine ⟨fun h3 => ?_, fun h3 => ?_⟩
  · have h3 : ps.any (outB 0 100) = true := h3
    exact bad 7 (by unfold Sh.askE; rw [hfe, h1, h2, h3]; rfl) (by decide)
  have h3 : ps.any (outB 0 100) = false := h3
  have hpb : ∀ v ∈ ps, 0 ≤ v ∧ v ≤ 100 := fun v hv => by
    have := List.any_eq_false.1 h3 v hv
    simp [outB] at this
    omega
  refine Or.inl ⟨by kernel_rfl, ?_⟩
  refine ⟨_, rfl, _, den59 s l _ hyl.2, ?_⟩
  refine ⟨_, rfl, _, den58o s l hok s.all (by omega), ?_⟩
  refine ⟨fun h4 => ?_, fun h4 => ?_⟩
  · have h4 : s.expl l s.all = false := by simpa using h4
    exact bad 9 (by unfold Sh.askE; rw [hfe, h1, h2, h3, h4]; rfl) (by decide)
  have h4 : s.expl l s.all = true := by simpa using h4
  have hE : s.askE l m ps = 0 := by unfold Sh.askE; rw [hfe, h1, h2, h3, h4]; rfl
  have hB : s.askB l m ps = s.askF l m ps (askP s.drifts.length ps.length) s.b0 := by unfold Sh.askB; rw [hE]; rfl
  rw [hE, hB]
  clear bad b3
  obtain ⟨d, hd⟩ : ∃ d, s.drifts.length = d := ⟨_, rfl⟩
  have hdml : ((s.drifts.map Sp.enc).length : Int) = d := by rw [sp_len, hd]
  rw [hd] at hdl ⊢
  have hb0 : s.askF l m ps (askP d 0) s.b0 = ⟨0, 0, 0, (s.yards.length : Int) + 1⟩ := rfl
  refine ⟨(s.yards.length : Int) + 1, by rw [yd_len]; exact wrap64 (by omega) (by omega), ?_⟩
  refine ⟨[2, 8, 9, 10, 11, 13, 58, 59, 60], 2, [], fun σ => ∃ (p : Nat) (b : Bst), p ≤ ps.length ∧ s.askF l m ps (askP d p) s.b0 = b ∧
    σ = ⟨[(2, .int .i64 m), (8, .int .i64 b.at'), (9, .int .i64 b.tide), (10, .int .i64 b.kind), (11, .int .i64 b.n), (13, .loc 1 0), (58, .list 1 (ps.map encI)), (59, .int .i64 (ps.map encI).length), (60, .int .i64 p)], [.flat false s.enc, .flat false (s.encS l ((fnd l : Nat) : Int))], .non⟩,
    fun σ => (1000 - slotI 60 σ).toNat, rfl, ⟨rfl, rfl⟩, ⟨0, _, Nat.zero_le _, hb0, rfl⟩, ?_⟩
  rintro σ ⟨p, b, hp, hb, rfl⟩
  refine ⟨fun h5 => ?_, fun h5 => ?_⟩
  · have h5 := of_decide_eq_true h5
    rw [encI_len] at h5
    have hp' : p < ps.length := by omega
    have hpv := hpb ps[p] (List.getElem_mem hp')
    have hdp : dAt ps p = ps[p] := dAt_get hp'
    refine ⟨by omega, _, encI_get hp', ?_⟩
    refine ⟨[2, 8, 9, 10, 11, 13, 14, 15, 58, 59, 60, 68, 69], 2, [], fun σ => ∃ (t : Nat) (b : Bst), t ≤ d ∧ s.askF l m ps (askT d p t) s.b0 = b ∧
      σ = ⟨[(2, .int .i64 m), (8, .int .i64 b.at'), (9, .int .i64 b.tide), (10, .int .i64 b.kind), (11, .int .i64 b.n), (13, .loc 1 0), (14, .int .i64 p), (15, .int .i64 ps[p]), (58, .list 1 (ps.map encI)), (59, .int .i64 (ps.map encI).length), (60, .int .i64 p), (68, .int .i64 (s.drifts.map Sp.enc).length), (69, .int .i64 t)], [.flat false s.enc, .flat false (s.encS l ((fnd l : Nat) : Int))], .non⟩,
      fun σ => (1000 - slotI 69 σ).toNat, rfl, ⟨rfl, rfl⟩, ⟨0, b, Nat.zero_le _, by rw [askT_zero]; exact hb, rfl⟩, ?_⟩
    clear hb
    rintro σ ⟨t, b, ht, hb, rfl⟩
    refine ⟨fun h6 => ?_, fun h6 => ?_⟩
    · have h6 := of_decide_eq_true h6
      rw [hdml] at h6
      refine ⟨[2, 8, 9, 10, 11, 13, 14, 15, 16, 58, 59, 60, 68, 69, 72], 2, [], fun σ => ∃ (k : Nat) (b : Bst), k ≤ 2 ∧ s.askF l m ps (askK d p t k) s.b0 = b ∧
        σ = ⟨[(2, .int .i64 m), (8, .int .i64 b.at'), (9, .int .i64 b.tide), (10, .int .i64 b.kind), (11, .int .i64 b.n), (13, .loc 1 0), (14, .int .i64 p), (15, .int .i64 ps[p]), (16, .int .i64 t), (58, .list 1 (ps.map encI)), (59, .int .i64 (ps.map encI).length), (60, .int .i64 p), (68, .int .i64 (s.drifts.map Sp.enc).length), (69, .int .i64 t), (72, .int .i64 k)], [.flat false s.enc, .flat false (s.encS l ((fnd l : Nat) : Int))], .non⟩,
        fun σ => (1000 - slotI 72 σ).toNat, rfl, ⟨rfl, rfl⟩, ⟨0, b, Nat.zero_le _, by rw [askK_zero]; exact hb, rfl⟩, ?_⟩
      clear hb
      rintro σ ⟨k, b, hk, hb, rfl⟩
      refine ⟨fun h7 => ?_, fun h7 => ?_⟩
      · have h7 : (k : Int) < 2 := of_decide_eq_true h7
        have hx : s.okX (smp0 ps[p] t k) := ⟨⟨Int.natCast_nonneg _, by show (t : Int) < _; omega⟩, ⟨Int.natCast_nonneg _, by show (k : Int) ≤ 1; omega⟩, hpv⟩
        have h72 := den72 s l hok hl8 (fnd l) (by omega) m (by omega) (smp0 ps[p] t k) hx rfl
        have hla : s.leftN l (fnd l) m (smp0 ps[p] t k) = s.leftAt l m ps (p, t, k) := by unfold Sh.leftAt; rw [hdp]
        rw [hla] at h72
        have hle := leftAt_le s l m ps (p, t, k)
        have hnext : s.askF l m ps (askK d p t (k + 1)) s.b0 = b.upd p t k (s.leftAt l m ps (p, t, k)) := by rw [askK_succ, askF_snoc, hb]
        obtain ⟨v, hv⟩ : ∃ v, s.leftAt l m ps (p, t, k) = v := ⟨_, rfl⟩
        rw [hv] at h72 hnext
        have less : (1000 - ((k : Int) + 1)).toNat < (1000 - (k : Int)).toNat := by omega
        refine ⟨_, rfl, _, h72, ?_⟩
        refine ⟨fun h8 => ?_, fun h8 => ?_⟩
        · have h8 : (v : Int) < b.n := of_decide_eq_true h8
          refine ⟨(k : Int) + 1, wrap64 (by omega) (by omega), ?_⟩
          exact ⟨⟨rfl, rfl⟩, ⟨k + 1, ⟨p, t, k, v⟩, by omega, by rw [hnext, Bst.upd, if_pos h8], rfl⟩, less⟩
        · have h8 : ¬ (v : Int) < b.n := of_decide_eq_false h8
          refine ⟨(k : Int) + 1, wrap64 (by omega) (by omega), ?_⟩
          exact ⟨⟨rfl, rfl⟩, ⟨k + 1, b, by omega, by rw [hnext, Bst.upd, if_neg h8], rfl⟩, less⟩
      · have h7 : ¬ (k : Int) < 2 := of_decide_eq_false h7
        have hk2 : k = 2 := by omega
        have hb : s.askF l m ps (askT d p (t + 1)) s.b0 = b := by rw [← askK_end, ← hb, hk2]
        refine ⟨(t : Int) + 1, wrap64 (by omega) (by omega), ?_⟩
        exact ⟨⟨rfl, rfl⟩, ⟨t + 1, b, by omega, hb, rfl⟩, by show (1000 - ((t : Int) + 1)).toNat < (1000 - (t : Int)).toNat; omega⟩
    · have h6 := of_decide_eq_false h6
      rw [hdml] at h6
      have htd : t = d := by omega
      have hb : s.askF l m ps (askP d (p + 1)) s.b0 = b := by rw [← askT_end, ← hb, htd]
      refine ⟨(p : Int) + 1, wrap64 (by omega) (by omega), ?_⟩
      exact ⟨⟨rfl, rfl⟩, ⟨p + 1, b, by omega, hb, rfl⟩, by show (1000 - ((p : Int) + 1)).toNat < (1000 - (p : Int)).toNat; omega⟩
  · have h5 := of_decide_eq_false h5
    rw [encI_len] at h5
    have hpe : p = ps.length := by omega
    show some (askD b 0) = some (askD (s.askF l m ps (askP d ps.length) s.b0) 0)
    rw [← hpe, hb]

end Go.Proofs.Water

namespace Go.Proofs.Water
open Go.V Go.Proofs

theorem sum_const {α : Type} (c : Nat) : ∀ l : List α, (l.map fun _ => c).sum = l.length * c
  | [] => by simp
  | a :: r => by
    rw [List.map_cons, List.sum_cons, sum_const c r, List.length_cons, Nat.add_mul]
    omega
theorem prefY_len (m y : Nat) : (prefY m y).length = y * (2 * m) := by
  unfold prefY
  rw [List.length_flatMap]
  have : (fun y : Nat => ((List.range 2).flatMap fun k => (List.range m).map fun t => (y, k, t)).length) = fun _ => 2 * m := by
    funext y
    rw [List.length_flatMap]
    simp [List.range_succ]
    omega
  rw [this, sum_const, List.length_range]
theorem prefT_len (m y k t : Nat) (hk : k ≤ 2) (ht : t ≤ m) : (prefT m y k t).length ≤ (y + 1) * (2 * m) + m := by
  have h1 := prefY_len m y
  unfold prefT prefK
  rw [List.length_append, List.length_append, h1]
  have h2 : ((List.range k).flatMap fun k => (List.range m).map fun t => (y, k, t)).length = k * m := by
    rw [List.length_flatMap]
    have : (fun k : Nat => ((List.range m).map fun t => (y, k, t)).length) = fun _ => m := by
      funext k
      simp
    rw [this, sum_const, List.length_range]
  rw [h2]
  simp only [List.length_map, List.length_range]
  have h3 : k * m ≤ 2 * m := Nat.mul_le_mul_right m hk
  have h4 : (y + 1) * (2 * m) = y * (2 * m) + 2 * m := by rw [Nat.add_mul]; omega
  omega

/-- The spills that there can be, of the yards of a set. -/
def Sh.mayB (s : Sh) (ys : Nat) (q : Q) : Bool := ys.testBit q.1 && (s.kindsY q.1).testBit q.2.1
def Sh.spl (s : Sh) (ys : Nat) (L : List Q) : List Q := L.filter (s.mayB ys)
def rowQ (q : Q) : List D := encQ q.1 q.2.1 q.2.2
def Sh.spills (s : Sh) (ys : Nat) : List Q := s.spl ys (prefY s.drifts.length s.yards.length)

theorem spl_add {s : Sh} {ys m y k t : Nat} (h : s.mayB ys (y, k, t) = true) : s.spl ys (prefT m y k (t + 1)) = s.spl ys (prefT m y k t) ++ [(y, k, t)] := by
  unfold Sh.spl
  rw [prefT_succ, List.filter_append]
  simp [h]
theorem spl_skip {s : Sh} {ys m y k t : Nat} (h : s.mayB ys (y, k, t) = false) : s.spl ys (prefT m y k (t + 1)) = s.spl ys (prefT m y k t) := by
  unfold Sh.spl
  rw [prefT_succ, List.filter_append]
  simp [h]

set_option maxRecDepth 4000 in
set_option maxHeartbeats 2000000 in
theorem den75 (s : Sh) (hv : s.Valid) (ys : Nat) (hys : ys < 2 ^ 60) : DN 75 [.agg s.enc, .int .i64 ys] (.list 3 ((s.spills ys).map rowQ)) := by
  refine mk Tryd.func75 Tryd.call75 rfl rfl ?_
  have hdl := hv.dl
  have hyl := hv.yl
  obtain ⟨m, hm⟩ : ∃ m, s.drifts.length = m := ⟨_, rfl⟩
  have hml : ((s.drifts.map Sp.enc).length : Int) = m := by rw [sp_len, hm]
  have hsp : s.spills ys = s.spl ys (prefY m s.yards.length) := by rw [← hm]; rfl
  rw [hsp]
  rw [hm] at hdl
  refine ⟨[1, 2, 5, 6], 1, [(.slot 5, 3)], fun σ => ∃ y g : Nat, y ≤ s.yards.length ∧
    σ = ⟨[(1, .int .i64 ys), (2, .loc 0 0), (5, .sl 1 g 0 ((s.spl ys (prefY m y)).map rowQ).length), (6, .int .i64 y)], [.flat false s.enc, .rows false g 3 ((s.spl ys (prefY m y)).map rowQ)], .non⟩,
    fun σ => (1000 - slotI 6 σ).toNat, rfl, ⟨rfl, rfl⟩, ⟨0, 0, Nat.zero_le _, rfl⟩, ?_⟩
  rintro σ ⟨y, g, hy, rfl⟩
  refine ⟨fun h1 => ?_, fun h1 => ?_⟩
  · have h1 := of_decide_eq_true h1
    rw [yd_len] at h1
    have hy' : y < s.yards.length := by omega
    obtain ⟨x, hxx⟩ : ∃ x, s.yards[y] = x := ⟨_, rfl⟩
    have hrow : (s.yards.map Yd.enc)[((y : Int)).toNat]? = some (x.enc) := by simp [hy', hxx]
    obtain ⟨hk1, hk2⟩ := kindsY_get hv hy'
    rw [hxx] at hk1
    refine ⟨[1, 2, 5, 6, 7], 2, [], fun σ => ∃ k g : Nat, k ≤ 2 ∧
      σ = ⟨[(1, .int .i64 ys), (2, .loc 0 0), (5, .sl 1 g 0 ((s.spl ys (prefK m y k)).map rowQ).length), (6, .int .i64 y), (7, .int .i64 k)], [.flat false s.enc, .rows false g 3 ((s.spl ys (prefK m y k)).map rowQ)], .non⟩,
      fun σ => (1000 - slotI 7 σ).toNat, rfl, ⟨rfl, rfl⟩, ⟨0, g, Nat.zero_le _, by rw [prefK_zero]; rfl⟩, ?_⟩
    rintro σ ⟨k, g, hk, rfl⟩
    refine ⟨fun h2 => ?_, fun h2 => ?_⟩
    · have h2 : (k : Int) < 2 := of_decide_eq_true h2
      refine ⟨[1, 2, 5, 6, 7, 8], 2, [], fun σ => ∃ t g : Nat, t ≤ m ∧
        σ = ⟨[(1, .int .i64 ys), (2, .loc 0 0), (5, .sl 1 g 0 ((s.spl ys (prefT m y k t)).map rowQ).length), (6, .int .i64 y), (7, .int .i64 k), (8, .int .i64 t)], [.flat false s.enc, .rows false g 3 ((s.spl ys (prefT m y k t)).map rowQ)], .non⟩,
        fun σ => (1000 - slotI 8 σ).toNat, rfl, ⟨rfl, rfl⟩, ⟨0, g, Nat.zero_le _, by rw [prefT_zero]; rfl⟩, ?_⟩
      rintro σ ⟨t, g, ht, rfl⟩
      refine ⟨fun h3 => ?_, fun h3 => ?_⟩
      · have h3 := of_decide_eq_true h3
        rw [hml] at h3
        have ht' : t < m := by omega
        have less : (1000 - ((t : Int) + 1)).toNat < (1000 - (t : Int)).toNat := by omega
        have h46 := den46 (s.kindsY y) k (by omega) (by omega)
        rw [← hk1] at h46
        have hlen : ((s.spl ys (prefT m y k t)).map rowQ).length ≤ 1000 := by
          have h5 := prefT_len m y k t hk ht
          have h6 : (s.spl ys (prefT m y k t)).length ≤ (prefT m y k t).length := List.length_filter_le _ _
          have h7 : (y + 1) * (2 * m) ≤ 6 * (2 * m) := Nat.mul_le_mul_right _ (by omega)
          rw [List.length_map]; omega
        refine ⟨_, rfl, _, den46 ys y (by omega) (by omega), ?_⟩
        refine ⟨fun h4 => ?_, fun h4 => ?_⟩
        · have h4 : ys.testBit y = true := h4
          refine ⟨by omega, _, hrow, ?_⟩
          refine ⟨_, rfl, _, h46, ?_⟩
          refine ⟨fun h5 => ?_, fun h5 => ?_⟩
          · have h5 : (s.kindsY y).testBit k = true := h5
            have hs : s.mayB ys (y, k, t) = true := by unfold Sh.mayB; rw [h4, h5]; rfl
            have hcat : (s.spl ys (prefT m y k t)).map rowQ ++ [[D.int .i64 y, .int .i64 k, .int .i64 t]] = (s.spl ys (prefT m y k (t + 1))).map rowQ := by rw [spl_add hs]; simp [rowQ, encQ]
            refine ⟨trivial, iff' (by rw [beq_self]; rfl) ⟨rfl, ?_, _, hcat, ?_⟩⟩
            · show (_ + 1) * 24 ≤ mostBytes; unfold mostBytes; omega
            refine ⟨(t : Int) + 1, wrap64 (by omega) (by omega), ?_⟩
            exact ⟨⟨rfl, rfl⟩, ⟨t + 1, g + 1, by omega, rfl⟩, less⟩
          · have h5 : (s.kindsY y).testBit k = false := h5
            have hs : s.mayB ys (y, k, t) = false := by unfold Sh.mayB; rw [h4, h5]; rfl
            refine ⟨(t : Int) + 1, wrap64 (by omega) (by omega), ?_⟩
            exact ⟨⟨rfl, rfl⟩, ⟨t + 1, g, by omega, by rw [spl_skip hs]; rfl⟩, less⟩
        · have h4 : ys.testBit y = false := h4
          have hs : s.mayB ys (y, k, t) = false := by unfold Sh.mayB; rw [h4]; rfl
          refine ⟨(t : Int) + 1, wrap64 (by omega) (by omega), ?_⟩
          exact ⟨⟨rfl, rfl⟩, ⟨t + 1, g, by omega, by rw [spl_skip hs]; rfl⟩, less⟩
      · have h3 := of_decide_eq_false h3
        rw [hml] at h3
        have htm : t = m := by omega
        have eT : prefT m y k t = prefK m y (k + 1) := by rw [htm, prefT_end]
        refine ⟨(k : Int) + 1, wrap64 (by omega) (by omega), ?_⟩
        exact ⟨⟨rfl, rfl⟩, ⟨k + 1, g, by omega, by rw [← eT]; rfl⟩, by show (1000 - ((k : Int) + 1)).toNat < (1000 - (k : Int)).toNat; omega⟩
    · have h2 : ¬ (k : Int) < 2 := of_decide_eq_false h2
      have hk2 : k = 2 := by omega
      have eK : prefK m y k = prefY m (y + 1) := by rw [hk2, prefK_end]
      refine ⟨(y : Int) + 1, wrap64 (by omega) (by omega), ?_⟩
      exact ⟨⟨rfl, rfl⟩, ⟨y + 1, g, by omega, by rw [← eK]; rfl⟩, by show (1000 - ((y : Int) + 1)).toNat < (1000 - (y : Int)).toNat; omega⟩
  · have h1 := of_decide_eq_false h1
    rw [yd_len] at h1
    have hye : y = s.yards.length := by omega
    rw [← hye]
    show reify [.flat false s.enc, .rows false g 3 ((s.spl ys (prefY m y)).map rowQ)] 8 (.sl 1 g 0 ((s.spl ys (prefY m y)).map rowQ).length) = _
    exact reify_sl rfl rfl

/-- A spill is in no sample in which nothing was found. -/
def Sh.clear (s : Sh) (d : List Int) (l : List Smp) (q : Q) : Bool := l.all fun x => x.found || !(s.inS d q.1 q.2.1 q.2.2 x)

theorem den88 (s : Sh) (hv : s.Valid) (d : List Int) (hd : Drf s d) (l : List Smp) (hl : l.length ≤ 8) (hx : ∀ x ∈ l, s.okX x) (y k t : Nat) (hy : y < s.yards.length) :
    DN 88 [.agg s.enc, .list 1 (d.map encI), .list 4 (l.map Smp.enc), .agg (encQ y k t)] (.bool (s.clear d l (y, k, t))) := by
  refine mk Tryd.func88 Tryd.call88 rfl rfl ?_
  refine ⟨[1, 2, 4, 7, 9], 2, [], fun σ => ∃ i : Nat, i ≤ l.length ∧ s.clear d l (y, k, t) = s.clear d (l.drop i) (y, k, t) ∧
    σ = ⟨[(1, .list 1 (d.map encI)), (2, .list 4 (l.map Smp.enc)), (4, .loc 0 0), (7, .loc 1 0), (9, .int .i64 i)], [.flat false s.enc, .flat false (encQ y k t)], .non⟩,
    fun σ => (1000 - slotI 9 σ).toNat, rfl, ⟨rfl, rfl⟩, ⟨0, Nat.zero_le _, rfl, rfl⟩, ?_⟩
  rintro σ ⟨i, hi, hc, rfl⟩
  refine ⟨fun h1 => ?_, fun h1 => ?_⟩
  · have h1 := of_decide_eq_true h1
    rw [smp_lenI] at h1
    have hi' : i < l.length := by omega
    obtain ⟨x, hxx⟩ : ∃ x, l[i] = x := ⟨_, rfl⟩
    have hrow : (l.map Smp.enc)[((i : Int)).toNat]? = some (x.enc) := by simp [hi', hxx]
    have hdrop : l.drop i = x :: l.drop (i + 1) := by rw [← hxx]; exact List.drop_eq_getElem_cons hi'
    have hxo := hx x (by rw [← hxx]; exact List.getElem_mem hi')
    have hc' : s.clear d l (y, k, t) = ((x.found || !(s.inS d y k t x)) && s.clear d (l.drop (i + 1)) (y, k, t)) := by
      rw [hc, hdrop]; unfold Sh.clear; rw [List.all_cons]
    have less : (1000 - ((i : Int) + 1)).toNat < (1000 - (i : Int)).toNat := by omega
    refine Or.inl ⟨by kernel_rfl, ?_⟩
    refine ⟨by omega, _, hrow, ?_⟩
    refine ⟨fun h2 => ?_, fun h2 => ?_⟩
    · have h2 : x.found = false := by simpa using h2
      refine ⟨by omega, _, hrow, ?_⟩
      refine ⟨_, rfl, _, den41 s hv d hd y k t hy x hxo, ?_⟩
      refine ⟨fun h3 => ?_, fun h3 => ?_⟩
      · have h3 : s.inS d y k t x = true := h3
        show some (D.bool false) = some (D.bool _)
        rw [hc', h2, h3]; rfl
      · have h3 : s.inS d y k t x = false := h3
        refine ⟨(i : Int) + 1, wrap64 (by omega) (by omega), ?_⟩
        exact ⟨⟨rfl, rfl⟩, ⟨i + 1, hi', by rw [hc', h2, h3]; rfl, rfl⟩, less⟩
    · have h2 : x.found = true := by simpa using h2
      refine ⟨(i : Int) + 1, wrap64 (by omega) (by omega), ?_⟩
      exact ⟨⟨rfl, rfl⟩, ⟨i + 1, hi', by rw [hc', h2]; rfl, rfl⟩, less⟩
  · have h1 := of_decide_eq_false h1
    rw [smp_lenI] at h1
    show some (D.bool true) = some (D.bool _)
    rw [hc, List.drop_of_length_le (by omega)]
    rfl

end Go.Proofs.Water

namespace Go.Proofs.Water
open Go.V Go.Proofs

def Sh.hits (s : Sh) (d : List Int) (l : List Smp) (x : Smp) (q : Q) : Bool := s.inS d q.1 q.2.1 q.2.2 x && s.clear d l q
def Sh.isE (s : Sh) (d : List Int) (l : List Smp) (L : List Q) (x : Smp) : Bool := !x.found || L.any (s.hits d l x)
/-- Spills of the yards of a set explain all samples, if water drifts so. -/
def Sh.expl1 (s : Sh) (d : List Int) (l : List Smp) (ys : Nat) : Bool := l.all (s.isE d l (s.spills ys))

theorem spills_mem {s : Sh} {ys : Nat} {q : Q} (h : q ∈ s.spills ys) : q.1 < s.yards.length ∧ q.2.1 < 2 ∧ q.2.2 < s.drifts.length :=
  prefY_mem.1 (List.mem_filter.1 h).1
theorem spills_len {s : Sh} (hv : s.Valid) (ys : Nat) : (s.spills ys).length ≤ 30 := by
  have h1 : (s.spills ys).length ≤ (prefY s.drifts.length s.yards.length).length := List.length_filter_le _ _
  rw [prefY_len] at h1
  have := hv.yl
  have := hv.dl
  have h2 : s.yards.length * (2 * s.drifts.length) ≤ 5 * (2 * 3) := Nat.mul_le_mul (by omega) (by omega)
  omega

set_option maxRecDepth 4000 in
set_option maxHeartbeats 2000000 in
theorem den86 (s : Sh) (hv : s.Valid) (d : List Int) (hd : Drf s d) (l : List Smp) (hl : l.length ≤ 8) (hx : ∀ x ∈ l, s.okX x) (ys : Nat) (hys : ys < 2 ^ 60) :
    DN 86 [.agg s.enc, .list 1 (d.map encI), .list 4 (l.map Smp.enc), .int .i64 ys] (.bool (s.expl1 d l ys)) := by
  refine mk Tryd.func86 Tryd.call86 rfl rfl ?_
  have hsl := spills_len hv ys
  have hsm := fun q hq => spills_mem (s := s) (ys := ys) (q := q) hq
  have h75 := den75 s hv ys hys
  obtain ⟨L, hL⟩ : ∃ L, s.spills ys = L := ⟨_, rfl⟩
  have he1 : s.expl1 d l ys = l.all (s.isE d l L) := by rw [← hL]; rfl
  rw [hL] at hsl hsm h75
  have hLl : ((L.map rowQ).length : Int) = L.length := by simp
  refine ⟨_, rfl, _, h75, ?_⟩
  refine ⟨[1, 2, 4, 9, 10], 1, [], fun σ => ∃ i : Nat, i ≤ l.length ∧ l.all (s.isE d l L) = (l.drop i).all (s.isE d l L) ∧
    σ = ⟨[(1, .list 1 (d.map encI)), (2, .list 4 (l.map Smp.enc)), (4, .loc 0 0), (9, .list 3 (L.map rowQ)), (10, .int .i64 i)], [.flat false s.enc], .non⟩,
    fun σ => (1000 - slotI 10 σ).toNat, rfl, ⟨rfl, rfl⟩, ⟨0, Nat.zero_le _, rfl, rfl⟩, ?_⟩
  rintro σ ⟨i, hi, hf, rfl⟩
  refine ⟨fun h1 => ?_, fun h1 => ?_⟩
  · have h1 := of_decide_eq_true h1
    rw [smp_lenI] at h1
    have hi' : i < l.length := by omega
    obtain ⟨x, hxx⟩ : ∃ x, l[i] = x := ⟨_, rfl⟩
    have hrow : (l.map Smp.enc)[((i : Int)).toNat]? = some (x.enc) := by simp [hi', hxx]
    have hdrop : l.drop i = x :: l.drop (i + 1) := by rw [← hxx]; exact List.drop_eq_getElem_cons hi'
    have hxo := hx x (by rw [← hxx]; exact List.getElem_mem hi')
    have hf' : l.all (s.isE d l L) = (s.isE d l L x && (l.drop (i + 1)).all (s.isE d l L)) := by rw [hf, hdrop, List.all_cons]
    have less : (1000 - ((i : Int) + 1)).toNat < (1000 - (i : Int)).toNat := by omega
    refine ⟨by omega, _, hrow, ?_⟩
    refine ⟨[1, 2, 4, 9, 10, 11, 12], 1, [], fun σ => ∃ (j : Nat) (is : Bool) (v : D), j ≤ L.length ∧ (v = .bool is ∨ (v = .ff ∧ is = false)) ∧ s.isE d l L x = (is || (L.drop j).any (s.hits d l x)) ∧
      σ = ⟨[(1, .list 1 (d.map encI)), (2, .list 4 (l.map Smp.enc)), (4, .loc 0 0), (9, .list 3 (L.map rowQ)), (10, .int .i64 i), (11, v), (12, .int .i64 j)], [.flat false s.enc], .non⟩,
      fun σ => (1000 - slotI 12 σ).toNat, rfl, ⟨rfl, rfl⟩, ⟨0, !x.found, _, Nat.zero_le _, .inl rfl, rfl, rfl⟩, ?_⟩
    rintro σ ⟨j, is, v, hj, hvv, hg, rfl⟩
    -- the end of the inner loop
    have stop : s.isE d l L x = is → ((!is) = true → some (D.bool false) = some (D.bool (s.expl1 d l ys))) ∧ ((!is) = false → l.all (s.isE d l L) = (l.drop (i + 1)).all (s.isE d l L)) := fun h => by
      refine ⟨fun h2 => ?_, fun h2 => ?_⟩
      · have h2 : is = false := by simpa using h2
        rw [he1, hf', h, h2]; rfl
      · have h2 : is = true := by simpa using h2
        rw [hf', h, h2]; rfl
    refine ⟨fun h2 => ?_, fun h2 => ?_⟩
    · have h2 := of_decide_eq_true h2
      rw [hLl] at h2
      have hj' : j < L.length := by omega
      obtain ⟨q, hq⟩ : ∃ q, L[j] = q := ⟨_, rfl⟩
      have hrowq : (L.map rowQ)[((j : Int)).toNat]? = some (rowQ q) := by simp [hj', hq]
      have hdropq : L.drop j = q :: L.drop (j + 1) := by rw [← hq]; exact List.drop_eq_getElem_cons hj'
      obtain ⟨hq1, hq2, hq3⟩ := hsm q (by rw [← hq]; exact List.getElem_mem hj')
      have hg' : is = false → s.isE d l L x = (s.hits d l x q || (L.drop (j + 1)).any (s.hits d l x)) := fun h => by
        rw [hg, h, hdropq, List.any_cons]; rfl
      have less2 : (1000 - ((j : Int) + 1)).toNat < (1000 - (j : Int)).toNat := by omega
      have hx41 := den41 s hv d hd q.1 q.2.1 q.2.2 hq1 x hxo
      have hx88 := den88 s hv d hd l hl hx q.1 q.2.1 q.2.2 hq1
      rcases hvv with rfl | ⟨rfl, rfl⟩
      · refine ⟨fun h3 => ?_, fun h3 => ?_⟩
        · have h3 : is = false := by simpa using h3
          refine Or.inl ⟨by kernel_rfl, ?_⟩
          refine ⟨by omega, _, hrowq, ?_⟩
          refine ⟨by omega, _, hrow, ?_⟩
          refine ⟨_, rfl, _, hx41, ?_⟩
          refine ⟨fun h4 => ?_, fun h4 => ?_⟩
          · have h4 : s.inS d q.1 q.2.1 q.2.2 x = true := h4
            refine ⟨by omega, _, hrowq, ?_⟩
            refine ⟨_, rfl, _, hx88, ?_⟩
            refine ⟨(j : Int) + 1, wrap64 (by omega) (by omega), ?_⟩
            exact ⟨⟨rfl, rfl⟩, ⟨j + 1, s.clear d l (q.1, q.2.1, q.2.2), _, by omega, .inl rfl, by rw [hg' h3]; unfold Sh.hits; rw [h4]; rfl, rfl⟩, less2⟩
          · have h4 : s.inS d q.1 q.2.1 q.2.2 x = false := h4
            refine ⟨(j : Int) + 1, wrap64 (by omega) (by omega), ?_⟩
            exact ⟨⟨rfl, rfl⟩, ⟨j + 1, false, _, by omega, .inr ⟨rfl, rfl⟩, by rw [hg' h3]; unfold Sh.hits; rw [h4]; rfl, rfl⟩, less2⟩
        · have h3 : is = true := by simpa using h3
          have hs := stop (by rw [hg, h3]; rfl)
          refine ⟨fun h4 => hs.1 h4, fun h4 => ?_⟩
          refine ⟨(i : Int) + 1, wrap64 (by omega) (by omega), ?_⟩
          exact ⟨⟨rfl, rfl⟩, ⟨i + 1, hi', hs.2 h4, rfl⟩, less⟩
      · refine Or.inl ⟨by kernel_rfl, ?_⟩
        refine ⟨by omega, _, hrowq, ?_⟩
        refine ⟨by omega, _, hrow, ?_⟩
        refine ⟨_, rfl, _, hx41, ?_⟩
        refine ⟨fun h4 => ?_, fun h4 => ?_⟩
        · have h4 : s.inS d q.1 q.2.1 q.2.2 x = true := h4
          refine ⟨by omega, _, hrowq, ?_⟩
          refine ⟨_, rfl, _, hx88, ?_⟩
          refine ⟨(j : Int) + 1, wrap64 (by omega) (by omega), ?_⟩
          exact ⟨⟨rfl, rfl⟩, ⟨j + 1, s.clear d l (q.1, q.2.1, q.2.2), _, by omega, .inl rfl, by rw [hg' rfl]; unfold Sh.hits; rw [h4]; rfl, rfl⟩, less2⟩
        · have h4 : s.inS d q.1 q.2.1 q.2.2 x = false := h4
          refine ⟨(j : Int) + 1, wrap64 (by omega) (by omega), ?_⟩
          exact ⟨⟨rfl, rfl⟩, ⟨j + 1, false, _, by omega, .inr ⟨rfl, rfl⟩, by rw [hg' rfl]; unfold Sh.hits; rw [h4]; rfl, rfl⟩, less2⟩
    · have h2 := of_decide_eq_false h2
      rw [hLl] at h2
      have hs := stop (by rw [hg, List.drop_of_length_le (by omega)]; simp)
      rcases hvv with rfl | ⟨rfl, rfl⟩
      · refine ⟨fun h4 => hs.1 h4, fun h4 => ?_⟩
        refine ⟨(i : Int) + 1, wrap64 (by omega) (by omega), ?_⟩
        exact ⟨⟨rfl, rfl⟩, ⟨i + 1, hi', hs.2 h4, rfl⟩, less⟩
      · exact hs.1 rfl
  · have h1 := of_decide_eq_false h1
    rw [smp_lenI] at h1
    show some (D.bool true) = some (D.bool _)
    rw [he1, hf, List.drop_of_length_le (by omega)]
    rfl

end Go.Proofs.Water

namespace Go.Proofs.Water
open Go.V Go.Proofs

def extS (b : Sp) (d : List Int) : List (List Int) := (rng b).map fun n => d ++ [n]
/-- All drifts, made from the first tide on. -/
def drsS (l : List Sp) : List (List Int) := l.foldl (fun S b => S.flatMap (extS b)) [[]]
theorem drsS_snoc (l : List Sp) (b : Sp) : drsS (l ++ [b]) = (drsS l).flatMap (extS b) := by unfold drsS; rw [List.foldl_append]; rfl

theorem dAt_app {c : List Int} {n : Int} {i : Nat} : dAt (c ++ [n]) i = if i < c.length then dAt c i else if i = c.length then n else 0 := by
  unfold dAt
  rcases Nat.lt_trichotomy i c.length with h | h | h
  · rw [if_pos h, List.getElem?_append_left h]
  · subst h; simp
  · rw [if_neg (by omega), if_neg (by omega), List.getElem?_eq_none (by simp; omega)]
theorem drsS_take {l : List Sp} : ∀ (t : Nat), t ≤ l.length → ∀ c, c ∈ drsS (l.take t) ↔ (c.length = t ∧ ∀ i b, i < t → l[i]? = some b → b.lo ≤ dAt c i ∧ dAt c i ≤ b.hi)
  | 0, _, c => by
    simp only [List.take_zero, drsS, List.foldl_nil, List.mem_singleton]
    exact ⟨fun h => by subst h; exact ⟨rfl, fun i b hi => by omega⟩, fun h => List.eq_nil_of_length_eq_zero h.1⟩
  | t + 1, ht, c => by
    have ih := drsS_take (l := l) t (by omega)
    have htl : t < l.length := by omega
    rw [List.take_succ_eq_append_getElem htl, drsS_snoc]
    simp only [List.mem_flatMap, extS, List.mem_map]
    constructor
    · rintro ⟨d, hd, n, hn, rfl⟩
      obtain ⟨h1, h2⟩ := (ih d).1 hd
      refine ⟨by simp [h1], fun i b hi hb => ?_⟩
      rw [dAt_app, h1]
      by_cases hit : i < t
      · rw [if_pos hit]; exact h2 i b hit hb
      · have : i = t := by omega
        subst this
        rw [if_neg hit, if_pos rfl]
        rw [List.getElem?_eq_getElem htl] at hb
        cases hb
        exact rng_mem.1 hn
    · rintro ⟨h1, h2⟩
      have hc : c = c.take t ++ [dAt c t] := by
        have h3 : t < c.length := by omega
        rw [dAt_get h3, ← List.take_succ_eq_append_getElem h3, ← h1, List.take_length]
      refine ⟨c.take t, (ih _).2 ⟨by rw [List.length_take]; omega, fun i b hi hb => ?_⟩, dAt c t, ?_, hc.symm⟩
      · have h4 := h2 i b (by omega) hb
        have h5 : dAt (c.take t) i = dAt c i := by unfold dAt; rw [List.getElem?_take, if_pos hi]
        rw [h5]; exact h4
      · exact rng_mem.2 (h2 t _ (by omega) (List.getElem?_eq_getElem htl))
theorem drsS_mem {l : List Sp} {c : List Int} : c ∈ drsS l ↔ c ∈ drs l := by
  have h := drsS_take (l := l) l.length (Nat.le_refl _) c
  rw [List.take_length] at h
  rw [h]
  constructor
  · rintro ⟨h1, h2⟩
    exact drs_in h1 fun i b hb => h2 i b (List.getElem?_eq_some_iff.1 hb).1 hb
  · intro h1
    obtain ⟨h2, h3⟩ := drs_mem h1
    exact ⟨h2, fun i b _ hb => h3 i b hb⟩

def encL : List Int → D
  | [] => .nils
  | a :: r => .list 1 ((a :: r).map encI)
def rowL (c : List Int) : List D := [encL c]
theorem encL_app (c : List Int) (n : Int) : encL (c ++ [n]) = .list 1 ((c ++ [n]).map encI) := by
  cases c <;> rfl

theorem fzs_seal {σ : St} {lo t i g sz0 sz : Nat} {fz : Bool} {rs : List (List D)} (h : V.look σ.tmps t = some (.sl i g 0 rs.length)) (hb : σ.boxes[i]? = some (.rows fz g sz rs)) :
    St.fzs σ lo [(.asList t, sz0)] = ⟨putIn σ.tmps t (.list sz rs), freezeIn σ.boxes 0 [i], σ.y⟩ := by
  unfold St.fzs
  rw [h]
  simp only
  have hr : reify σ.boxes fuel (.sl i g 0 rs.length) = some (.list sz rs) := reify_sl hb rfl
  rw [hr]
  rfl

theorem reifyP_one {bs : List Box} {i : Nat} {d e : D} (h : reify bs fuel d = some e) : reifyP bs [(i, d)] = some [(i, e)] := by simp only [reifyP, h]

theorem flat_len {α : Type} {f : α → List (List Int)} {k : Nat} : ∀ {L : List α}, (∀ a ∈ L, (f a).length ≤ k) → (L.flatMap f).length ≤ L.length * k
  | [], _ => by simp
  | a :: r, h => by
    have h1 := h a (by simp)
    have h2 := flat_len (L := r) fun b hb => h b (by simp [hb])
    rw [List.flatMap_cons, List.length_append, List.length_cons, Nat.add_mul]
    omega
theorem ext_len {s : Sh} (hv : s.Valid) {b : Sp} (hb : b ∈ s.drifts) (d : List Int) : (extS b d).length ≤ 7 := by
  unfold extS
  rw [List.length_map, rng_len]
  have := hv.d b hb
  omega
theorem drsS_len {s : Sh} (hv : s.Valid) : ∀ t, t ≤ 3 → (drsS (s.drifts.take t)).length ≤ 7 ^ t
  | 0, _ => by simp [drsS]
  | t + 1, ht => by
    have ih := drsS_len hv t (by omega)
    by_cases htl : t < s.drifts.length
    · rw [List.take_succ_eq_append_getElem htl, drsS_snoc]
      have h1 := flat_len (L := drsS (s.drifts.take t)) (f := extS s.drifts[t]) (k := 7) fun d _ => ext_len hv (List.getElem_mem htl) d
      rw [Nat.pow_succ]
      exact Nat.le_trans h1 (Nat.mul_le_mul_right 7 ih)
    · rw [List.take_of_length_le (by omega)]
      rw [List.take_of_length_le (by omega)] at ih
      exact Nat.le_trans ih (Nat.pow_le_pow_right (by decide) (by omega))

set_option maxRecDepth 4000 in
set_option maxHeartbeats 4000000 in
theorem den85 (s : Sh) (hv : s.Valid) : DN 85 [.agg s.enc] (.list 1 ((drsS s.drifts).map rowL)) := by
  refine mk Tryd.func85 Tryd.call85 rfl rfl ?_
  have hdl := hv.dl
  have hrows : ∀ L : List (List Int), ((L.map rowL).length : Int) = L.length := fun L => by simp
  refine ⟨[1, 3, 4], 1, [(.asList 3, 1)], fun σ => ∃ t : Nat, t ≤ s.drifts.length ∧
    σ = ⟨[(1, .loc 0 0), (3, .list 1 ((drsS (s.drifts.take t)).map rowL)), (4, .int .i64 t)], [.flat false s.enc], .non⟩,
    fun σ => (1000 - slotI 4 σ).toNat, rfl, ⟨rfl, rfl⟩, ⟨0, Nat.zero_le _, rfl⟩, ?_⟩
  rintro σ ⟨t, ht, rfl⟩
  refine ⟨fun h1 => ?_, fun h1 => ?_⟩
  · have h1 := of_decide_eq_true h1
    rw [sp_len] at h1
    have ht' : t < s.drifts.length := by omega
    obtain ⟨b, hb⟩ : ∃ b, s.drifts[t] = b := ⟨_, rfl⟩
    have hrow : (s.drifts.map Sp.enc)[((t : Int)).toNat]? = some (b.enc) := by simp [ht', hb]
    have hbm : b ∈ s.drifts := by rw [← hb]; exact List.getElem_mem ht'
    have hbb := hv.d b hbm
    have hSl := drsS_len hv t (by omega)
    have hS7 : 7 ^ t ≤ 7 ^ 2 := Nat.pow_le_pow_right (by decide) (by omega)
    have hnext : drsS (s.drifts.take (t + 1)) = (drsS (s.drifts.take t)).flatMap (extS b) := by rw [List.take_succ_eq_append_getElem ht', drsS_snoc, hb]
    obtain ⟨S, hS⟩ : ∃ S, drsS (s.drifts.take t) = S := ⟨_, rfl⟩
    rw [hS] at hSl hnext ⊢
    refine ⟨[1, 3, 4, 5, 6], 1, [(.slot 5, 1)], fun σ => ∃ i g : Nat, i ≤ S.length ∧
      σ = ⟨[(1, .loc 0 0), (3, .list 1 (S.map rowL)), (4, .int .i64 t), (5, .sl 1 g 0 (((S.take i).flatMap (extS b)).map rowL).length), (6, .int .i64 i)], [.flat false s.enc, .rows false g 1 (((S.take i).flatMap (extS b)).map rowL)], .non⟩,
      fun σ => (1000 - slotI 6 σ).toNat, rfl, ⟨rfl, rfl⟩, ⟨0, 0, Nat.zero_le _, rfl⟩, ?_⟩
    rintro σ ⟨i, g, hi, rfl⟩
    refine ⟨fun h2 => ?_, fun h2 => ?_⟩
    · have h2 := of_decide_eq_true h2
      rw [hrows] at h2
      have hi' : i < S.length := by omega
      obtain ⟨d, hd⟩ : ∃ d, S[i] = d := ⟨_, rfl⟩
      have hrowd : (S.map rowL)[((i : Int)).toNat]? = some (rowL d) := by simp [hi', hd]
      have htk : S.take (i + 1) = S.take i ++ [d] := by rw [List.take_succ_eq_append_getElem hi', hd]
      obtain ⟨P, hP⟩ : ∃ P, (S.take i).flatMap (extS b) = P := ⟨_, rfl⟩
      have hPl : P.length ≤ 343 := by
        rw [← hP]
        have := flat_len (L := S.take i) (f := extS b) (k := 7) fun d _ => ext_len hv hbm d
        have h3 : (S.take i).length ≤ 49 := by rw [List.length_take]; omega
        omega
      have hPn : (S.take (i + 1)).flatMap (extS b) = P ++ extS b d := by rw [htk, List.flatMap_append, hP]; simp
      rw [hP]
      refine ⟨by omega, _, hrow, ?_⟩
      refine ⟨[1, 3, 4, 5, 6, 7], 2, [], fun σ => ∃ j g : Nat, j ≤ (rng b).length ∧
        σ = ⟨[(1, .loc 0 0), (3, .list 1 (S.map rowL)), (4, .int .i64 t), (5, .sl 1 g 0 ((P ++ ((rng b).take j).map fun n => d ++ [n]).map rowL).length), (6, .int .i64 i), (7, .int .i64 (b.lo + j))], [.flat false s.enc, .rows false g 1 ((P ++ ((rng b).take j).map fun n => d ++ [n]).map rowL)], .non⟩,
        fun σ => (1000 - slotI 7 σ).toNat, rfl, ⟨rfl, rfl⟩, ⟨0, g, Nat.zero_le _, ?_⟩, ?_⟩
      · show _ = (⟨[(1, _), (3, _), (4, _), (5, .sl 1 g 0 ((P ++ []).map rowL).length), (6, _), (7, .int .i64 (b.lo + 0))], [_, .rows false g 1 ((P ++ []).map rowL)], _⟩ : St)
        rw [Int.add_zero, List.append_nil]
        rfl
      rintro σ ⟨j, g, hj, rfl⟩
      refine ⟨by omega, _, hrow, ?_⟩
      refine ⟨fun h3 => ?_, fun h3 => ?_⟩
      · have h3 : b.lo + (j : Int) ≤ b.hi := of_decide_eq_true h3
        have hjl : j < (rng b).length := by rw [rng_len]; omega
        have hdt : d.length = t := by
          have h4 : d ∈ drsS (s.drifts.take t) := by rw [hS, ← hd]; exact List.getElem_mem hi'
          exact ((drsS_take t (by omega) d).1 h4).1
        have hrl : (rng b).length ≤ 21 := by rw [rng_len]; omega
        obtain ⟨n, hn⟩ : ∃ n, b.lo + (j : Int) = n := ⟨_, rfl⟩
        have hcat : d.map encI ++ [[D.int .i64 n]] = (d ++ [n]).map encI := by simp [encI]
        have hcat2 : ((P ++ ((rng b).take j).map fun n => d ++ [n]).map rowL) ++ [[D.list 1 ((d ++ [n]).map encI)]] = (P ++ ((rng b).take (j + 1)).map fun n => d ++ [n]).map rowL := by
          have h5 : (rng b).take (j + 1) = (rng b).take j ++ [n] := by rw [List.take_succ_eq_append_getElem hjl, rng_get, hn]
          have h6 : rowL (d ++ [n]) = [D.list 1 ((d ++ [n]).map encI)] := by unfold rowL; rw [encL_app]
          have e : (P ++ ((rng b).take j).map fun n => d ++ [n]) ++ [d ++ [n]] = P ++ ((rng b).take (j + 1)).map fun n => d ++ [n] := by rw [h5, List.map_append, List.append_assoc]; rfl
          conv => rhs; rw [← e, List.map_append]
          show _ = _ ++ [rowL (d ++ [n])]
          rw [h6]
        have hlen : ((P ++ ((rng b).take j).map fun n => d ++ [n]).map rowL).length ≤ 1000 := by
          rw [List.length_map, List.length_append, List.length_map, List.length_take]; omega
        have less : (1000 - (n + 1)).toNat < (1000 - n).toNat := by omega
        have hn1 : n + 1 = b.lo + ((j + 1 : Nat) : Int) := by omega
        rw [hn]
        refine ⟨by omega, _, hrowd, ?_⟩
        have h8 : (d.map encI).length * 8 ≤ mostBytes := by rw [encI_len]; unfold mostBytes; omega
        have h9 : ((d.map encI).length + 1) * 8 ≤ mostBytes := by rw [encI_len]; unfold mostBytes; omega
        have h10 : (((P ++ ((rng b).take j).map fun n => d ++ [n]).map rowL).length + 1) * 24 ≤ mostBytes := by unfold mostBytes; omega
        cases d with
        | nil =>
          refine ⟨rfl, h8, ?_⟩
          refine ⟨trivial, iff' rfl ⟨rfl, h9, _, hcat, ?_⟩⟩
          refine ⟨_, reifyP_one (reify_sl rfl rfl), _, rfl, ?_⟩
          refine ⟨trivial, iff' (by rw [beq_self]; rfl) ⟨rfl, h10, _, hcat2, ?_⟩⟩
          refine ⟨n + 1, wrap64 (by omega) (by omega), ?_⟩
          exact ⟨⟨rfl, rfl⟩, ⟨j + 1, g + 1, hjl, by rw [← hn1]; rfl⟩, less⟩
        | cons a r =>
          refine ⟨trivial, h8, ?_⟩
          refine ⟨trivial, iff' rfl ⟨rfl, h9, _, hcat, ?_⟩⟩
          refine ⟨_, reifyP_one (reify_sl rfl rfl), _, rfl, ?_⟩
          refine ⟨trivial, iff' (by rw [beq_self]; rfl) ⟨rfl, h10, _, hcat2, ?_⟩⟩
          refine ⟨n + 1, wrap64 (by omega) (by omega), ?_⟩
          exact ⟨⟨rfl, rfl⟩, ⟨j + 1, g + 1, hjl, by rw [← hn1]; rfl⟩, less⟩
      · have h3 : ¬ b.lo + (j : Int) ≤ b.hi := of_decide_eq_false h3
        have hjl : (rng b).length ≤ j := by rw [rng_len]; omega
        have hfull : P ++ ((rng b).take j).map (fun n => d ++ [n]) = (S.take (i + 1)).flatMap (extS b) := by rw [hPn, List.take_of_length_le hjl]; rfl
        refine ⟨(i : Int) + 1, wrap64 (by omega) (by omega), ?_⟩
        exact ⟨⟨rfl, rfl⟩, ⟨i + 1, g, hi', by rw [← hfull]; rfl⟩, by show (1000 - ((i : Int) + 1)).toNat < (1000 - (i : Int)).toNat; omega⟩
    · have h2 := of_decide_eq_false h2
      rw [hrows] at h2
      have hfull : (S.take i).flatMap (extS b) = drsS (s.drifts.take (t + 1)) := by rw [List.take_of_length_le (by omega), hnext]
      refine ⟨(t : Int) + 1, wrap64 (by omega) (by omega), ?_⟩
      refine ⟨?_, ?_, ?_⟩
      · rw [fzs_seal (i := 1) (g := g) (sz := 1) (fz := false) (rs := ((S.take i).flatMap (extS b)).map rowL) rfl rfl]
        exact ⟨rfl, rfl⟩
      · rw [fzs_seal (i := 1) (g := g) (sz := 1) (fz := false) (rs := ((S.take i).flatMap (extS b)).map rowL) rfl rfl]
        exact ⟨t + 1, ht', by rw [← hfull]; rfl⟩
      · rw [fzs_seal (i := 1) (g := g) (sz := 1) (fz := false) (rs := ((S.take i).flatMap (extS b)).map rowL) rfl rfl]
        show (1000 - ((t : Int) + 1)).toNat < (1000 - (t : Int)).toNat
        omega
  · have h1 := of_decide_eq_false h1
    rw [sp_len] at h1
    show some (D.list 1 ((drsS (s.drifts.take t)).map rowL)) = some _
    rw [List.take_of_length_le (by omega)]

end Go.Proofs.Water

namespace Go.Proofs.Water
open Go.V Go.Proofs

theorem foundAt_get {l : List Smp} {i : Nat} {x : Smp} (h : l[i]? = some x) : foundAt l i = x.found := by unfold foundAt; rw [h]
theorem fnd_bit (l : List Smp) (i : Nat) : (fnd l).testBit i = foundAt l i := by
  unfold fnd
  rw [setOf_bit]
  by_cases h : i < l.length
  · simp [h]
  · have : foundAt l i = false := by unfold foundAt; rw [List.getElem?_eq_none (by omega)]
    simp [this]
theorem inSet_bit (s : Sh) (d : List Int) (y k t : Nat) (l : List Smp) (i : Nat) : (s.inSet d y k t l).testBit i = s.inAt d y k t l i := by
  unfold Sh.inSet
  rw [setOf_bit]
  by_cases h : i < l.length
  · simp [h]
  · have : s.inAt d y k t l i = false := by unfold Sh.inAt; rw [List.getElem?_eq_none (by omega)]
    simp [this]
theorem inAt_get {s : Sh} {d : List Int} {y k t : Nat} {l : List Smp} {i : Nat} {x : Smp} (h : l[i]? = some x) : s.inAt d y k t l i = s.inS d y k t x := by unfold Sh.inAt; rw [h]

theorem zero_of_bits {a : Nat} (h : ∀ i, a.testBit i = false) : a = 0 := Nat.eq_of_testBit_eq fun i => by rw [h i]; simp

theorem clear_eq (s : Sh) (d : List Int) (l : List Smp) (q : Q) : s.clear d l q = (diff (s.inSet d q.1 q.2.1 q.2.2 l) (fnd l) == 0) := by
  apply Bool.eq_iff_iff.2
  unfold Sh.clear
  rw [List.all_eq_true, beq_iff_eq]
  constructor
  · intro h
    refine zero_of_bits fun i => ?_
    rw [diff_bit, inSet_bit, fnd_bit]
    cases hi : l[i]? with
    | none => unfold Sh.inAt; rw [hi]; rfl
    | some x =>
      rw [inAt_get hi, foundAt_get hi]
      have := h x (List.mem_of_getElem? hi)
      revert this
      cases x.found <;> cases s.inS d q.1 q.2.1 q.2.2 x <;> simp
  · intro h x hx
    obtain ⟨i, hi⟩ := List.mem_iff_getElem?.1 hx
    have h1 := diff_bit (s.inSet d q.1 q.2.1 q.2.2 l) (fnd l) i
    rw [h, inSet_bit, fnd_bit, inAt_get hi, foundAt_get hi] at h1
    revert h1
    simp
    cases x.found <;> cases s.inS d q.1 q.2.1 q.2.2 x <;> simp

theorem es_mem {s : Sh} {d : List Int} {l : List Smp} {q : Q} : q ∈ s.es d l (fnd l) ↔ q ∈ prefY s.drifts.length s.yards.length ∧ (s.kindsY q.1).testBit q.2.1 = true ∧ s.inSet d q.1 q.2.1 q.2.2 l ≠ 0 ∧ s.clear d l q = true := by
  unfold Sh.es Sh.sees
  rw [List.mem_filter, clear_eq]
  simp only [Bool.and_eq_true, Bool.not_eq_true', beq_eq_false_iff_ne, ne_eq]
theorem spills_iff {s : Sh} {ys : Nat} {q : Q} : q ∈ s.spills ys ↔ q ∈ prefY s.drifts.length s.yards.length ∧ ys.testBit q.1 = true ∧ (s.kindsY q.1).testBit q.2.1 = true := by
  unfold Sh.spills Sh.spl Sh.mayB
  rw [List.mem_filter, Bool.and_eq_true]

theorem ne_zero_bit {a i : Nat} (h : a.testBit i = true) : a ≠ 0 := fun e => by rw [e] at h; simp at h

/-- Explained, as the program finds out and as the reference does. -/
theorem agr_eq {s : Sh} {d : List Int} {l : List Smp} (hl : l.length ≤ 8) (ys : Nat) : s.agr d l (fnd l) ys = s.expl1 d l ys := by
  apply Bool.eq_iff_iff.2
  unfold Sh.agr Sh.unc Sh.expl1
  rw [beq_iff_eq, List.all_eq_true]
  constructor
  · intro h x hx
    obtain ⟨i, hi⟩ := List.mem_iff_getElem?.1 hx
    have hil : i < l.length := (List.getElem?_eq_some_iff.1 hi).1
    unfold Sh.isE
    cases hf : x.found with
    | false => rfl
    | true =>
      have h1 := setOf_bit (fun i => (fnd l).testBit i && !((s.es d l (fnd l)).any (s.covs d l ys i))) 60 i
      rw [h, fnd_bit, foundAt_get hi, hf] at h1
      have h60 : decide (i < 60) = true := decide_eq_true (by omega)
      rw [h60] at h1
      have h2 : (s.es d l (fnd l)).any (s.covs d l ys i) = true := by simpa using h1
      obtain ⟨q, hq, hc⟩ := List.any_eq_true.1 h2
      unfold Sh.covs at hc
      rw [Bool.and_eq_true, inSet_bit, inAt_get hi] at hc
      obtain ⟨e1, e2, e3, e4⟩ := es_mem.1 hq
      rw [Bool.not_true, Bool.false_or, List.any_eq_true]
      exact ⟨q, spills_iff.2 ⟨e1, hc.1, e2⟩, by unfold Sh.hits; rw [hc.2, e4]; rfl⟩
  · intro h
    refine zero_of_bits fun i => ?_
    rw [setOf_bit, fnd_bit]
    cases hi : l[i]? with
    | none => unfold foundAt; rw [hi]; simp
    | some x =>
      rw [foundAt_get hi]
      have h1 := h x (List.mem_of_getElem? hi)
      unfold Sh.isE at h1
      cases hf : x.found with
      | false => simp
      | true =>
        rw [hf, Bool.not_true, Bool.false_or, List.any_eq_true] at h1
        obtain ⟨q, hq, hh⟩ := h1
        unfold Sh.hits at hh
        rw [Bool.and_eq_true] at hh
        obtain ⟨e1, e2, e3⟩ := spills_iff.1 hq
        have hb : (s.inSet d q.1 q.2.1 q.2.2 l).testBit i = true := by rw [inSet_bit, inAt_get hi]; exact hh.1
        have h2 : (s.es d l (fnd l)).any (s.covs d l ys i) = true := List.any_eq_true.2 ⟨q, es_mem.2 ⟨e1, e3, ne_zero_bit hb, hh.2⟩, by unfold Sh.covs; rw [e2, hb]; rfl⟩
        simp [h2]

/-- A yard can be in a sample, in one way to drift. -/
def Sh.canAt (s : Sh) (d : List Int) (l : List Smp) (x : Smp) (y : Nat) : Bool := s.expl1 d l s.all && (s.spills s.all).any fun q => q.1 == y && s.hits d l x q

theorem and_bit {a i : Nat} : (a &&& 2 ^ i) ≠ 0 ↔ a.testBit i = true := by
  constructor
  · intro h
    cases hb : a.testBit i with
    | true => rfl
    | false =>
      refine absurd (zero_of_bits fun j => ?_) h
      rw [Nat.testBit_and, pow_bit]
      by_cases hj : j = i
      · subst hj; rw [hb]; rfl
      · simp [hj]
  · intro h e
    have := congrArg (·.testBit i) e
    simp only [Nat.testBit_and, pow_bit, h] at this
    simp at this

theorem bits_ne {a : Nat} (h : a ≠ 0) : ∃ i, a.testBit i = true := by
  cases Classical.em (∃ i, a.testBit i = true) with
  | inl h => exact h
  | inr h1 =>
    refine absurd (zero_of_bits fun i => ?_) h
    cases hb : a.testBit i with
    | false => rfl
    | true => exact absurd ⟨i, hb⟩ h1

theorem can_bit {s : Sh} (hv : s.Valid) {l : List Smp} (hl : l.length ≤ 8) (sm y : Nat) :
    (s.can l sm).testBit y = true ↔ ∃ d ∈ drs s.drifts, ∃ i x, l[i]? = some x ∧ sm.testBit i = true ∧ s.canAt d l x y = true := by
  unfold Sh.can Sh.canF
  rw [canP_bit, Bool.and_eq_true, decide_eq_true_eq, List.any_eq_true]
  constructor
  · rintro ⟨hy, d, hd, h⟩
    obtain ⟨hd1, hd2⟩ := List.mem_filter.1 hd
    rw [agr_eq hl] at hd2
    obtain ⟨q, hq, hc⟩ := List.any_eq_true.1 h
    unfold Sh.canE at hc
    rw [Bool.and_eq_true, Bool.not_eq_true', beq_eq_false_iff_ne] at hc
    obtain ⟨i, hi⟩ := bits_ne hc.2
    rw [Nat.testBit_and, Bool.and_eq_true, inSet_bit] at hi
    obtain ⟨e1, e2, e3, e4⟩ := es_mem.1 hq
    cases hx : l[i]? with
    | none => have := hi.1; unfold Sh.inAt at this; rw [hx] at this; cases this
    | some x =>
      rw [inAt_get hx] at hi
      refine ⟨d, hd1, i, x, hx, hi.2, ?_⟩
      unfold Sh.canAt
      rw [hd2, Bool.true_and, List.any_eq_true]
      have hq1 := (prefY_mem (k := q.2.1) (t := q.2.2).1 e1).1
      exact ⟨q, spills_iff.2 ⟨e1, by rw [all_bit]; exact decide_eq_true hq1, e2⟩, by rw [hc.1]; unfold Sh.hits; rw [hi.1, e4]; rfl⟩
  · rintro ⟨d, hd, i, x, hx, hsm, hc⟩
    unfold Sh.canAt at hc
    rw [Bool.and_eq_true, List.any_eq_true] at hc
    obtain ⟨h1, q, hq, hh⟩ := hc
    rw [Bool.and_eq_true] at hh
    unfold Sh.hits at hh
    rw [Bool.and_eq_true] at hh
    obtain ⟨e1, e2, e3⟩ := spills_iff.1 hq
    have hq1 := (prefY_mem (k := q.2.1) (t := q.2.2).1 e1).1
    have hqy : q.1 = y := by simpa using hh.1
    have hb : (s.inSet d q.1 q.2.1 q.2.2 l).testBit i = true := by rw [inSet_bit, inAt_get hx]; exact hh.2.1
    have := hv.yl
    refine ⟨by omega, d, List.mem_filter.2 ⟨hd, by rw [agr_eq hl]; exact h1⟩, List.any_eq_true.2 ⟨q, es_mem.2 ⟨e1, e3, ne_zero_bit hb, hh.2.2⟩, ?_⟩⟩
    unfold Sh.canE
    rw [Bool.and_eq_true, Bool.not_eq_true', beq_eq_false_iff_ne]
    refine ⟨hh.1, ne_zero_bit (i := i) ?_⟩
    rw [Nat.testBit_and, hb, hsm]; rfl

theorem expl_eq {s : Sh} {l : List Smp} (hl : l.length ≤ 8) (ys : Nat) : s.expl l ys = (drsS s.drifts).any fun d => s.expl1 d l ys := by
  unfold Sh.expl Sh.explF
  apply Bool.eq_iff_iff.2
  simp only [List.any_eq_true, agr_eq hl, drsS_mem]

end Go.Proofs.Water

namespace Go.Proofs.Water
open Go.V Go.Proofs

theorem drsS_ne {s : Sh} (hv : s.Valid) {d : List Int} (h : d ∈ drsS s.drifts) : Drf s d ∧ encL d = .list 1 (d.map encI) := by
  have h1 := drsS_mem.1 h
  have h2 := drf_of hv h1
  refine ⟨h2, ?_⟩
  cases d with
  | nil => have h3 : 0 = s.drifts.length := h2.len; have := hv.dl; omega
  | cons a r => rfl
theorem drsS_le {s : Sh} (hv : s.Valid) : (drsS s.drifts).length ≤ 343 := by
  have h := drsS_len hv 3 (Nat.le_refl 3)
  have := hv.dl
  rw [List.take_of_length_le (by omega)] at h
  exact h

theorem den60 (s : Sh) (l : List Smp) (h : s.Ok l) (ys : Nat) (hys : ys < 2 ^ 60) : DN 60 [.agg s.enc, .list 4 (l.map Smp.enc), .int .i64 ys] (.bool (s.expl l ys)) := by
  refine mk Tryd.func60 Tryd.call60 rfl rfl ?_
  have hd343 := drsS_le h.v
  have hmem := fun d hd => drsS_ne h.v (d := d) hd
  have he := expl_eq (s := s) (l := l) h.ll ys
  refine ⟨_, rfl, _, den85 s h.v, ?_⟩
  obtain ⟨DL, hDL⟩ : ∃ DL, drsS s.drifts = DL := ⟨_, rfl⟩
  rw [hDL] at hd343 hmem he ⊢
  have hlen : ((DL.map rowL).length : Int) = DL.length := by simp
  refine ⟨[1, 2, 3, 7, 8], 1, [], fun σ => ∃ i : Nat, i ≤ DL.length ∧ (DL.any fun d => s.expl1 d l ys) = ((DL.drop i).any fun d => s.expl1 d l ys) ∧
    σ = ⟨[(1, .list 4 (l.map Smp.enc)), (2, .int .i64 ys), (3, .loc 0 0), (7, .list 1 (DL.map rowL)), (8, .int .i64 i)], [.flat false s.enc], .non⟩,
    fun σ => (1000 - slotI 8 σ).toNat, rfl, ⟨rfl, rfl⟩, ⟨0, Nat.zero_le _, rfl, rfl⟩, ?_⟩
  rintro σ ⟨i, hi, hf, rfl⟩
  refine ⟨fun h1 => ?_, fun h1 => ?_⟩
  · have h1 := of_decide_eq_true h1
    rw [hlen] at h1
    have hi' : i < DL.length := by omega
    obtain ⟨d, hd⟩ : ∃ d, DL[i] = d := ⟨_, rfl⟩
    obtain ⟨hdf, hde⟩ := hmem d (by rw [← hd]; exact List.getElem_mem hi')
    have hrow : (DL.map rowL)[((i : Int)).toNat]? = some [.list 1 (d.map encI)] := by simp [hi', hd, rowL, hde]
    have hdrop : DL.drop i = d :: DL.drop (i + 1) := by rw [← hd]; exact List.drop_eq_getElem_cons hi'
    rw [hdrop, List.any_cons] at hf
    refine Or.inl ⟨by kernel_rfl, ?_⟩
    refine ⟨by omega, _, hrow, ?_⟩
    refine ⟨_, rfl, _, den86 s h.v d hdf l h.ll h.x ys hys, ?_⟩
    refine ⟨fun h2 => ?_, fun h2 => ?_⟩
    · have h2 : s.expl1 d l ys = true := h2
      show some (D.bool true) = some (D.bool _)
      rw [he, hf, h2]; rfl
    · have h2 : s.expl1 d l ys = false := h2
      refine ⟨(i : Int) + 1, wrap64 (by omega) (by omega), ?_⟩
      exact ⟨⟨rfl, rfl⟩, ⟨i + 1, hi', by rw [hf, h2]; rfl, rfl⟩, by show (1000 - ((i : Int) + 1)).toNat < (1000 - (i : Int)).toNat; omega⟩
  · have h1 := of_decide_eq_false h1
    rw [hlen] at h1
    show some (D.bool false) = some (D.bool _)
    rw [he, hf, List.drop_of_length_le (by omega)]
    rfl

theorem den65 (s : Sh) (l : List Smp) (e : Int) (h : e = 0 → s.Ok l) : DN 65 [.agg s.enc, .list 4 (l.map Smp.enc), .int .i64 e] (.int .i64 (s.agreedE l e)) := by
  refine mk Tryd.func65 Tryd.call65 rfl rfl ?_
  refine Or.inl ⟨by kernel_rfl, ?_⟩
  refine ⟨fun h1 => ?_, fun h1 => ?_⟩
  · have h1 : (e == 0) = true := h1
    have he : e = 0 := by simpa using h1
    have hok := h he
    have hall := all_lt hok.v
    refine ⟨_, rfl, _, den61 s hok.v.yl.2, ?_⟩
    refine ⟨_, rfl, _, den60 s l hok s.all (by omega), ?_⟩
    refine ⟨fun h2 => ?_, fun h2 => ?_⟩
    · have h2 : s.expl l s.all = false := by simpa using h2
      show some (D.int .i64 9) = some (D.int .i64 _)
      unfold Sh.agreedE; rw [h1, h2]
    · have h2 : s.expl l s.all = true := by simpa using h2
      show some (D.int .i64 e) = some (D.int .i64 _)
      unfold Sh.agreedE; rw [h1, h2, he]
  · have h1 : (e == 0) = false := h1
    show some (D.int .i64 e) = some (D.int .i64 _)
    unfold Sh.agreedE; rw [h1]

theorem den18 (s : Sh) (l : List Smp) : DN 18 [.agg s.enc, .list 4 (l.map Smp.enc)] (agreeD (s.agreeR l)) := by
  refine mk Tryd.func18 Tryd.call18 rfl rfl ?_
  have fin : ∀ {p q : Bool × Int}, p = q → some (agreeD p) = some (agreeD q) := fun h => by rw [h]
  refine ⟨_, rfl, _, den43 s l, ?_⟩
  refine ⟨fun h1 => ?_, fun h1 => ?_⟩
  · have h1 : (s.openE l != 0) = true := h1
    exact fin (p := (false, s.openE l)) (q := s.agreeR l) (by unfold Sh.agreeR; rw [h1])
  · have h1 : (s.openE l != 0) = false := h1
    have h0 : s.openE l = 0 := by simpa using h1
    have hok := ok_of h0
    have hall := all_lt hok.v
    refine Or.inl ⟨by kernel_rfl, ?_⟩
    refine ⟨_, rfl, _, den61 s hok.v.yl.2, ?_⟩
    refine ⟨_, rfl, _, den60 s l hok s.all (by omega), ?_⟩
    exact fin (p := (s.expl l s.all, 0)) (q := s.agreeR l) (by unfold Sh.agreeR; rw [h1])

theorem add_bit5 : ∀ a : Nat, a < 32 → ∀ y : Nat, y < 5 → a.testBit y = false → a + 2 ^ y = a ||| 2 ^ y := by decide +kernel

/-- The yards found so far. -/
def Sh.canS (s : Sh) (l : List Smp) (x : Smp) (L : List (List Int)) : Nat := setOf 5 fun y => L.any fun d => s.canAt d l x y
theorem canS_can {s : Sh} {l : List Smp} (h : s.Ok l) {i : Nat} {x : Smp} (hx : l[i]? = some x) : s.canS l x (drsS s.drifts) = s.can l (2 ^ i) := by
  apply Nat.eq_of_testBit_eq
  intro y
  unfold Sh.canS
  rw [setOf_bit]
  apply Bool.eq_iff_iff.2
  rw [can_bit h.v h.ll, Bool.and_eq_true, decide_eq_true_eq, List.any_eq_true]
  constructor
  · rintro ⟨_, d, hd, hc⟩
    exact ⟨d, drsS_mem.1 hd, i, x, hx, by rw [pow_bit]; simp, hc⟩
  · rintro ⟨d, hd, j, x', hx', hb, hc⟩
    rw [pow_bit] at hb
    have : j = i := by simpa using hb
    subst this
    rw [hx] at hx'; cases hx'
    refine ⟨?_, d, drsS_mem.2 hd, hc⟩
    unfold Sh.canAt at hc
    rw [Bool.and_eq_true, List.any_eq_true] at hc
    obtain ⟨_, q, hq, hh⟩ := hc
    rw [Bool.and_eq_true] at hh
    have h1 := (spills_mem hq).1
    have h2 : q.1 = y := by simpa using hh.1
    have := h.v.yl
    omega

theorem setOf_addbit {p q : Nat → Bool} {y : Nat} (hy : y < 5) (hp : p y = false) (h : ∀ z, q z = (p z || z == y)) : setOf 5 p + 2 ^ y = setOf 5 q := by
  have hb : (setOf 5 p).testBit y = false := by rw [setOf_bit, hp, Bool.and_false]
  rw [add_bit5 _ (setOf_lt p 5) y hy hb]
  apply Nat.eq_of_testBit_eq
  intro z
  rw [Nat.testBit_or, setOf_bit, setOf_bit, pow_bit, h z]
  by_cases hz : z = y
  · subst hz; simp [hy]
  · have : (z == y) = false := by simpa using hz
    simp [hz, this]

set_option maxRecDepth 4000 in
set_option maxHeartbeats 4000000 in
theorem den68 (s : Sh) (l : List Smp) (h : s.Ok l) (i : Nat) (hi : i < l.length) : DN 68 [.agg s.enc, .list 4 (l.map Smp.enc), .int .i64 i] (.int .i64 ((s.can l (2 ^ i) : Nat) : Int)) := by
  refine mk Tryd.func68 Tryd.call68 rfl rfl ?_
  have hall := all_lt h.v
  have hll := h.ll
  have hd343 := drsS_le h.v
  have hmem := fun d hd => drsS_ne h.v (d := d) hd
  obtain ⟨x, hx⟩ : ∃ x, l[i] = x := ⟨_, rfl⟩
  have hxi : l[i]? = some x := by rw [List.getElem?_eq_getElem hi, hx]
  have hxo := h.x x (List.mem_of_getElem? hxi)
  have hrowx : (l.map Smp.enc)[((i : Int)).toNat]? = some (x.enc) := by simp [hi, hx]
  have hcan := canS_can h hxi
  have hsl := spills_len h.v s.all
  have hsm := fun q hq => spills_mem (s := s) (ys := s.all) (q := q) hq
  have hyl := h.v.yl
  refine Or.inl ⟨by kernel_rfl, ?_⟩
  refine ⟨_, rfl, _, den85 s h.v, ?_⟩
  refine ⟨_, rfl, _, den61 s hyl.2, ?_⟩
  refine ⟨_, rfl, _, den75 s h.v s.all (by omega), ?_⟩
  obtain ⟨DL, hDL⟩ : ∃ DL, drsS s.drifts = DL := ⟨_, rfl⟩
  obtain ⟨L, hL⟩ : ∃ L, s.spills s.all = L := ⟨_, rfl⟩
  rw [hDL] at hd343 hmem hcan
  rw [hL] at hsl hsm
  rw [hDL, hL]
  have hlen : ((DL.map rowL).length : Int) = DL.length := by simp
  have hLl : ((L.map rowQ).length : Int) = L.length := by simp
  refine ⟨[1, 2, 3, 7, 8, 9, 10], 1, [], fun σ => ∃ j : Nat, j ≤ DL.length ∧
    σ = ⟨[(1, .list 4 (l.map Smp.enc)), (2, .int .i64 i), (3, .loc 0 0), (7, .int .i64 ((s.canS l x (DL.take j) : Nat) : Int)), (8, .list 1 (DL.map rowL)), (9, .list 3 (L.map rowQ)), (10, .int .i64 j)], [.flat false s.enc], .non⟩,
    fun σ => (1000 - slotI 10 σ).toNat, rfl, ⟨rfl, rfl⟩, ⟨0, Nat.zero_le _, rfl⟩, ?_⟩
  rintro σ ⟨j, hj, rfl⟩
  refine ⟨fun h1 => ?_, fun h1 => ?_⟩
  · have h1 := of_decide_eq_true h1
    rw [hlen] at h1
    have hj' : j < DL.length := by omega
    obtain ⟨d, hd⟩ : ∃ d, DL[j] = d := ⟨_, rfl⟩
    obtain ⟨hdf, hde⟩ := hmem d (by rw [← hd]; exact List.getElem_mem hj')
    have hrow : (DL.map rowL)[((j : Int)).toNat]? = some [.list 1 (d.map encI)] := by simp [hj', hd, rowL, hde]
    have htk : DL.take (j + 1) = DL.take j ++ [d] := by rw [List.take_succ_eq_append_getElem hj', hd]
    have less : (1000 - ((j : Int) + 1)).toNat < (1000 - (j : Int)).toNat := by omega
    have hx86 := den86 s h.v d hdf l h.ll h.x s.all (by omega)
    refine Or.inl ⟨by kernel_rfl, ?_⟩
    refine ⟨by omega, _, hrow, ?_⟩
    refine ⟨_, rfl, _, den61 s hyl.2, ?_⟩
    refine ⟨_, rfl, _, hx86, ?_⟩
    refine ⟨fun h2 => ?_, fun h2 => ?_⟩
    · have h2 : s.expl1 d l s.all = false := by simpa using h2
      have hsame : s.canS l x (DL.take j) = s.canS l x (DL.take (j + 1)) := by
        refine setOf_congr fun y _ => ?_
        rw [htk, List.any_append]
        unfold Sh.canAt
        simp [h2]
      refine ⟨(j : Int) + 1, wrap64 (by omega) (by omega), ?_⟩
      exact ⟨⟨rfl, rfl⟩, ⟨j + 1, hj', by rw [← hsame]; rfl⟩, less⟩
    have h2 : s.expl1 d l s.all = true := by simpa using h2
    -- what the spills so far add
    obtain ⟨pre, hpre⟩ : ∃ pre : Nat → Bool, (fun y => (DL.take j).any fun d => s.canAt d l x y) = pre := ⟨_, rfl⟩
    have hS0 : s.canS l x (DL.take j) = setOf 5 (fun y => pre y || (L.take 0).any fun q => q.1 == y && s.hits d l x q) := by
      unfold Sh.canS
      rw [hpre]
      exact setOf_congr fun y _ => by simp
    have hS1 : s.canS l x (DL.take (j + 1)) = setOf 5 (fun y => pre y || L.any fun q => q.1 == y && s.hits d l x q) := by
      unfold Sh.canS
      refine setOf_congr fun y _ => ?_
      rw [htk, List.any_append, ← hpre]
      unfold Sh.canAt
      rw [hL]
      simp [h2]
    rw [hS0]
    refine ⟨[1, 2, 3, 7, 8, 9, 10, 11], 1, [], fun σ => ∃ k : Nat, k ≤ L.length ∧
      σ = ⟨[(1, .list 4 (l.map Smp.enc)), (2, .int .i64 i), (3, .loc 0 0), (7, .int .i64 ((setOf 5 (fun y => pre y || (L.take k).any fun q => q.1 == y && s.hits d l x q) : Nat) : Int)), (8, .list 1 (DL.map rowL)), (9, .list 3 (L.map rowQ)), (10, .int .i64 j), (11, .int .i64 k)], [.flat false s.enc], .non⟩,
      fun σ => (1000 - slotI 11 σ).toNat, rfl, ⟨rfl, rfl⟩, ⟨0, Nat.zero_le _, rfl⟩, ?_⟩
    rintro σ ⟨k, hk, rfl⟩
    obtain ⟨pk, hpk⟩ : ∃ pk : Nat → Bool, (fun y => pre y || (L.take k).any fun q => q.1 == y && s.hits d l x q) = pk := ⟨_, rfl⟩
    have hset := setOf_lt pk 5
    rw [hpk]
    refine ⟨fun h3 => ?_, fun h3 => ?_⟩
    · have h3 := of_decide_eq_true h3
      rw [hLl] at h3
      have hk' : k < L.length := by omega
      obtain ⟨q, hq⟩ : ∃ q, L[k] = q := ⟨_, rfl⟩
      have hrowq : (L.map rowQ)[((k : Int)).toNat]? = some (rowQ q) := by simp [hk', hq]
      obtain ⟨hq1, hq2, hq3⟩ := hsm q (by rw [← hq]; exact List.getElem_mem hk')
      have htkq : L.take (k + 1) = L.take k ++ [q] := by rw [List.take_succ_eq_append_getElem hk', hq]
      have less2 : (1000 - ((k : Int) + 1)).toNat < (1000 - (k : Int)).toNat := by omega
      have hnext : ∀ y, (pre y || (L.take (k + 1)).any fun q => q.1 == y && s.hits d l x q) = (pk y || (q.1 == y && s.hits d l x q)) := fun y => by
        rw [htkq, List.any_append, ← hpk]
        simp [Bool.or_assoc]
      have skip : (pk q.1 = true ∨ s.hits d l x q = false) → setOf 5 pk = setOf 5 (fun y => pre y || (L.take (k + 1)).any fun q => q.1 == y && s.hits d l x q) := fun hh => by
        refine setOf_congr fun y _ => ?_
        rw [hnext]
        rcases hh with hh | hh
        · by_cases hy : q.1 = y
          · subst hy; simp [hh]
          · have : (q.1 == y) = false := by simpa using hy
            simp [this]
        · simp [hh]
      have take : pk q.1 = false → s.hits d l x q = true → setOf 5 pk + 2 ^ q.1 = setOf 5 (fun y => pre y || (L.take (k + 1)).any fun q => q.1 == y && s.hits d l x q) := fun h4 h5 => by
        refine setOf_addbit (by omega) h4 fun y => ?_
        rw [hnext, h5, Bool.and_true]
        congr 1
        apply Bool.eq_iff_iff.2; simp; exact eq_comm
      have hbit : (setOf 5 pk).testBit q.1 = pk q.1 := by rw [setOf_bit]; have : q.1 < 5 := by omega
                                                          simp [this]
      have hx46 := den46 (setOf 5 pk) q.1 (by omega) (by omega)
      rw [hbit] at hx46
      have hx41 := den41 s h.v d hdf q.1 q.2.1 q.2.2 hq1 x hxo
      have hx88 := den88 s h.v d hdf l h.ll h.x q.1 q.2.1 q.2.2 hq1
      have hx50 := den50 q.1 (by omega)
      have hp5 : 2 ^ q.1 ≤ 2 ^ 5 := Nat.pow_le_pow_right (by decide) (by omega)
      refine ⟨by omega, _, hrowq, ?_⟩
      refine Or.inl ⟨by kernel_rfl, ?_⟩
      refine ⟨_, rfl, _, hx46, ?_⟩
      refine ⟨fun h4 => ?_, fun h4 => ?_⟩
      · have h4 : pk q.1 = false := by simpa using h4
        refine ⟨by omega, _, hrow, ?_⟩
        refine ⟨by omega, _, hrowx, ?_⟩
        refine ⟨_, rfl, _, hx41, ?_⟩
        refine ⟨fun h5 => ?_, fun h5 => ?_⟩
        · have h5 : s.inS d q.1 q.2.1 q.2.2 x = true := h5
          refine ⟨by omega, _, hrow, ?_⟩
          refine ⟨_, rfl, _, hx88, ?_⟩
          refine ⟨fun h6 => ?_, fun h6 => ?_⟩
          · have h6 : s.clear d l (q.1, q.2.1, q.2.2) = true := h6
            have hh : s.hits d l x q = true := by unfold Sh.hits; rw [h5]; exact h6
            refine ⟨_, rfl, _, hx50, ?_⟩
            have ht := take h4 hh
            refine ⟨((setOf 5 pk + 2 ^ q.1 : Nat) : Int), ?_, ?_⟩
            · have e : ((setOf 5 pk : Nat) : Int) + ((2 ^ q.1 : Nat) : Int) = ((setOf 5 pk + 2 ^ q.1 : Nat) : Int) := (Int.natCast_add _ _).symm
              exact (congrArg IntKind.i64.wrap e).trans (wrap64 (by omega) (by omega))
            refine ⟨(k : Int) + 1, wrap64 (by omega) (by omega), ?_⟩
            exact ⟨⟨rfl, rfl⟩, ⟨k + 1, hk', by rw [← ht]; rfl⟩, less2⟩
          · have h6 : s.clear d l (q.1, q.2.1, q.2.2) = false := h6
            have hh : s.hits d l x q = false := by unfold Sh.hits; rw [h5]; exact h6
            refine ⟨(k : Int) + 1, wrap64 (by omega) (by omega), ?_⟩
            exact ⟨⟨rfl, rfl⟩, ⟨k + 1, hk', by rw [← skip (.inr hh)]; rfl⟩, less2⟩
        · have h5 : s.inS d q.1 q.2.1 q.2.2 x = false := h5
          have hh : s.hits d l x q = false := by unfold Sh.hits; rw [h5]; rfl
          refine ⟨(k : Int) + 1, wrap64 (by omega) (by omega), ?_⟩
          exact ⟨⟨rfl, rfl⟩, ⟨k + 1, hk', by rw [← skip (.inr hh)]; rfl⟩, less2⟩
      · have h4 : pk q.1 = true := by simpa using h4
        refine ⟨(k : Int) + 1, wrap64 (by omega) (by omega), ?_⟩
        exact ⟨⟨rfl, rfl⟩, ⟨k + 1, hk', by rw [← skip (.inl h4)]; rfl⟩, less2⟩
    · have h3 := of_decide_eq_false h3
      rw [hLl] at h3
      have hfull : setOf 5 pk = s.canS l x (DL.take (j + 1)) := by rw [hS1, ← hpk, List.take_of_length_le (by omega)]
      refine ⟨(j : Int) + 1, wrap64 (by omega) (by omega), ?_⟩
      exact ⟨⟨rfl, rfl⟩, ⟨j + 1, hj', by rw [← hfull]; rfl⟩, less⟩
  · have h1 := of_decide_eq_false h1
    rw [hlen] at h1
    show some (D.int .i64 ((s.canS l x (DL.take j) : Nat) : Int)) = some _
    rw [List.take_of_length_le (by omega), hcan]

end Go.Proofs.Water

namespace Go.Proofs.Water
open Go.V Go.Proofs

theorem foundE_ok2 {s : Sh} {l : List Smp} {n : Int} (h : s.foundE l n = 0) : s.openE l = 0 ∧ givenE l n = 0 := by
  unfold Sh.foundE at h
  cases h1 : s.openE l == 0 with
  | true => rw [h1] at h; exact ⟨by simpa using h1, h⟩
  | false =>
    rw [h1] at h
    have : ¬ s.openE l = 0 := by simpa using h1
    exact absurd h this
theorem agreedE_ok {s : Sh} {l : List Smp} {e : Int} (h : s.agreedE l e = 0) : e = 0 ∧ s.expl l s.all = true := by
  unfold Sh.agreedE at h
  cases h1 : e == 0 with
  | true =>
    rw [h1] at h
    cases h2 : s.expl l s.all with
    | true => exact ⟨by simpa using h1, rfl⟩
    | false => rw [h2] at h; cases h
  | false =>
    rw [h1] at h
    have : ¬ e = 0 := by simpa using h1
    exact absurd h this

theorem den20 (s : Sh) (l : List Smp) (n : Int) : DN 20 [.agg s.enc, .list 4 (l.map Smp.enc), .int .i64 n] (listD (s.canR l n)) := by
  have h65 := den65 s l (s.foundE l n) fun h => ok_of (foundE_ok2 h).1
  by_cases h0 : s.agreedE l (s.foundE l n) = 0
  · obtain ⟨h1, h2⟩ := agreedE_ok h0
    obtain ⟨h3, h4⟩ := foundE_ok2 h1
    obtain ⟨hn1, hn2, hn3⟩ := givenE_zero h4
    obtain ⟨m, rfl⟩ : ∃ m : Nat, n = m := ⟨n.toNat, by omega⟩
    have hok := ok_of h3
    have hlt := canP_lt s l (fnd l) (2 ^ m) ((drs s.drifts).filter fun d => s.agr d l (fnd l) s.all)
    have hr : s.canR l m = (yardsZ (s.can l (2 ^ m)), 0) := by unfold Sh.canR; rw [h0]; rfl
    rw [h0] at h65
    refine mkW Tryd.func20 Tryd.call20 rfl rfl ?_
    refine Or.inl ⟨by kernel_rfl, ?_⟩
    refine ⟨_, rfl, _, den66 s l m, ?_⟩
    refine ⟨_, rfl, _, h65, ?_⟩
    refine ⟨(fun h => nomatch h), fun _ => ?_⟩
    refine ⟨_, rfl, _, den68 s l hok m (by omega), ?_⟩
    refine ⟨_, rfl, _, den67 _ (Nat.lt_trans hlt (by decide)), ?_⟩
    exact late _ _ hr
  · have hne : (s.agreedE l (s.foundE l n) != 0) = true := by simpa using h0
    have hr : s.canR l n = ([], s.agreedE l (s.foundE l n)) := by unfold Sh.canR; rw [hne]
    rw [hr]
    obtain ⟨e, he⟩ : ∃ e, s.agreedE l (s.foundE l n) = e := ⟨_, rfl⟩
    rw [he] at h65 h0 ⊢
    refine mkW Tryd.func20 Tryd.call20 rfl rfl ?_
    refine Or.inl ⟨by kernel_rfl, ?_⟩
    refine ⟨_, rfl, _, den66 s l n, ?_⟩
    refine ⟨_, rfl, _, h65, ?_⟩
    refine ⟨fun _ => ?_, fun h => absurd (by simpa using h) h0⟩
    exact early e

theorem diff_sub : ∀ n : Nat, n < 6 → ∀ y : Nat, y < n → diff (2 ^ n - 1) (2 ^ y) = 2 ^ n - 1 - 2 ^ y := by decide +kernel
theorem pow_le_all {s : Sh} {y : Nat} (hy : y < s.yards.length) : 2 ^ y ≤ s.all := by
  unfold Sh.all
  have h1 : 2 ^ y < 2 ^ s.yards.length := Nat.pow_lt_pow_right (by decide) hy
  omega

theorem den26 (s : Sh) (l : List Smp) : DN 26 [.agg s.enc, .list 4 (l.map Smp.enc)] (listD (s.mustR l)) := by
  have h65 := den65 s l (s.openE l) fun h => ok_of h
  by_cases h0 : s.enterE l = 0
  · obtain ⟨h1, h2⟩ := enter_ok h0
    have hok := ok_of h1
    have hall := all_lt hok.v
    have hyl := hok.v.yl
    have hr : s.mustR l = (s.mustL l s.yards.length, 0) := by unfold Sh.mustR; rw [h0]; rfl
    have h65' : DN 65 [.agg s.enc, .list 4 (l.map Smp.enc), .int .i64 (s.openE l)] (.int .i64 0) := by
      have : s.agreedE l (s.openE l) = 0 := h0
      rw [this] at h65; exact h65
    refine mkW Tryd.func26 Tryd.call26 rfl rfl ?_
    refine Or.inl ⟨by kernel_rfl, ?_⟩
    refine ⟨_, rfl, _, den43 s l, ?_⟩
    refine ⟨_, rfl, _, h65', ?_⟩
    refine ⟨(fun h => nomatch h), fun _ => ?_⟩
    refine ⟨[1, 2, 7, 8], 1, [(.slot 7, 1)], fun σ => ∃ (n g : Nat), n ≤ s.yards.length ∧
      σ = ⟨[(1, .list 4 (l.map Smp.enc)), (2, .loc 0 0), (7, .sl 1 g 0 ((s.mustL l n).map encI).length), (8, .int .i64 n)], [.flat false s.enc, .rows false g 1 ((s.mustL l n).map encI)], .non⟩,
      fun σ => (1000 - slotI 8 σ).toNat, rfl, ⟨rfl, rfl⟩, ⟨0, 0, Nat.zero_le _, rfl⟩, ?_⟩
    rintro σ ⟨n, g, hn, rfl⟩
    have hml := mustL_len s l n
    refine ⟨fun h3 => ?_, fun h3 => ?_⟩
    · have h3 := of_decide_eq_true h3
      rw [yd_len] at h3
      have hn' : n < s.yards.length := by omega
      have hds : diff s.all (2 ^ n) = s.all - 2 ^ n := diff_sub s.yards.length (by omega) n hn'
      have hpa := pow_le_all hn'
      have hdl : diff s.all (2 ^ n) < 2 ^ 60 := diff_lt (by omega)
      refine Or.inl ⟨by kernel_rfl, ?_⟩
      refine ⟨_, rfl, _, den61 s hyl.2, ?_⟩
      refine ⟨_, rfl, _, den50 n (by omega), ?_⟩
      refine ⟨((diff s.all (2 ^ n) : Nat) : Int), ?_, ?_⟩
      · have e : ((s.all : Nat) : Int) - ((2 ^ n : Nat) : Int) = ((diff s.all (2 ^ n) : Nat) : Int) := by rw [hds]; omega
        exact (congrArg IntKind.i64.wrap e).trans (wrap64 (by omega) (by omega))
      refine ⟨_, rfl, _, den60 s l hok _ hdl, ?_⟩
      refine ⟨fun h4 => ?_, fun h4 => ?_⟩
      · have h4 : s.expl l (diff s.all (2 ^ n)) = false := by simpa using h4
        have hcat : (s.mustL l n).map encI ++ [[D.int .i64 n]] = (s.mustL l (n + 1)).map encI := by rw [mustL_add h4]; simp [encI]
        refine ⟨trivial, iff' (by rw [beq_self]; rfl) ⟨rfl, ?_, _, hcat, ?_⟩⟩
        · rw [encI_len]; show (_ + 1) * 8 ≤ mostBytes; unfold mostBytes; omega
        refine ⟨(n : Int) + 1, wrap64 (by omega) (by omega), ?_⟩
        exact ⟨⟨rfl, rfl⟩, ⟨n + 1, g + 1, hn', rfl⟩, by show (1000 - ((n : Int) + 1)).toNat < (1000 - (n : Int)).toNat; omega⟩
      · have h4 : s.expl l (diff s.all (2 ^ n)) = true := by simpa using h4
        refine ⟨(n : Int) + 1, wrap64 (by omega) (by omega), ?_⟩
        exact ⟨⟨rfl, rfl⟩, ⟨n + 1, g, hn', by rw [mustL_skip h4]; rfl⟩, by show (1000 - ((n : Int) + 1)).toNat < (1000 - (n : Int)).toNat; omega⟩
    · have h3 := of_decide_eq_false h3
      rw [yd_len] at h3
      have hn' : n = s.yards.length := by omega
      rw [hr, ← hn']
      exact ⟨_, reify_tup (mapO_cons (reify_sl rfl rfl) rfl), .refl _⟩
  · have hne : (s.enterE l != 0) = true := by simpa using h0
    have hr : s.mustR l = ([], s.enterE l) := by unfold Sh.mustR; rw [hne]
    rw [hr]
    have h65 : DN 65 [.agg s.enc, .list 4 (l.map Smp.enc), .int .i64 (s.openE l)] (.int .i64 (s.enterE l)) := h65
    obtain ⟨e, he⟩ : ∃ e, s.enterE l = e := ⟨_, rfl⟩
    rw [he] at h65 h0 ⊢
    refine mkW Tryd.func26 Tryd.call26 rfl rfl ?_
    refine Or.inl ⟨by kernel_rfl, ?_⟩
    refine ⟨_, rfl, _, den43 s l, ?_⟩
    refine ⟨_, rfl, _, h65, ?_⟩
    refine ⟨fun _ => ?_, fun h => absurd (by simpa using h) h0⟩
    exact early e

theorem bef_all : ∀ m : Nat, m < 6 → ∀ b : Nat, b < 2 ^ m → befB (yardsZ (2 ^ m - 1)) (yardsZ b) = false := by decide +kernel
theorem bestN_all {s : Sh} (hv : s.Valid) (p : Nat → Bool) : bestN p s.all (2 ^ s.yards.length) = bestN p s.all s.all := by
  have h0 : 0 < 2 ^ s.yards.length := Nat.two_pow_pos _
  have e : 2 ^ s.yards.length = s.all + 1 := by unfold Sh.all; omega
  have h1 : bestN p s.all s.all < 2 ^ s.yards.length := bestN_lt p (by omega) _ (by omega)
  rw [e]
  show (if (befB (yardsZ s.all) (yardsZ (bestN p s.all s.all)) && p s.all) = true then s.all else bestN p s.all s.all) = _
  have h2 : befB (yardsZ s.all) (yardsZ (bestN p s.all s.all)) = false := bef_all s.yards.length (by have := hv.yl; omega) _ h1
  rw [h2]; rfl

theorem den28 (s : Sh) (l : List Smp) : DN 28 [.agg s.enc, .list 4 (l.map Smp.enc)] (listD (s.fewestR l)) := by
  have h65 := den65 s l (s.openE l) fun h => ok_of h
  by_cases h0 : s.enterE l = 0
  · obtain ⟨h1, h2⟩ := enter_ok h0
    have hok := ok_of h1
    have hall := all_lt hok.v
    have hyl := hok.v.yl
    have hr : s.fewestR l = (yardsZ (bestN (s.expl l) s.all s.all), 0) := by unfold Sh.fewestR; rw [h0, bestN_all hok.v]; rfl
    have h65' : DN 65 [.agg s.enc, .list 4 (l.map Smp.enc), .int .i64 (s.openE l)] (.int .i64 0) := by
      have : s.agreedE l (s.openE l) = 0 := h0
      rw [this] at h65; exact h65
    refine mkW Tryd.func28 Tryd.call28 rfl rfl ?_
    refine Or.inl ⟨by kernel_rfl, ?_⟩
    refine ⟨_, rfl, _, den43 s l, ?_⟩
    refine ⟨_, rfl, _, h65', ?_⟩
    refine ⟨(fun h => nomatch h), fun _ => ?_⟩
    refine ⟨_, rfl, _, den61 s hyl.2, ?_⟩
    refine ⟨_, rfl, _, den67 s.all (by omega), ?_⟩
    refine ⟨[1, 2, 7, 8], 1, [], fun σ => ∃ k : Nat, k ≤ s.all ∧
      σ = ⟨[(1, .list 4 (l.map Smp.enc)), (2, .loc 0 0), (7, .list 1 ((yardsZ (bestN (s.expl l) s.all k)).map encI)), (8, .int .i64 k)], [.flat false s.enc], .non⟩,
      fun σ => (1000 - slotI 8 σ).toNat, rfl, ⟨rfl, rfl⟩, ⟨0, Nat.zero_le _, rfl⟩, ?_⟩
    rintro σ ⟨k, hk, rfl⟩
    refine ⟨_, rfl, _, den61 s hyl.2, ?_⟩
    refine ⟨fun h3 => ?_, fun h3 => ?_⟩
    · have h3 : (k : Int) < ((s.all : Nat) : Int) := of_decide_eq_true h3
      have hk' : k < s.all := by omega
      obtain ⟨best, hbest⟩ : ∃ best, bestN (s.expl l) s.all k = best := ⟨_, rfl⟩
      have hl1 := yardsL_le k
      have hl2 := yardsL_le best
      rw [← yardsZ_len] at hl1 hl2
      have less : (1000 - ((k : Int) + 1)).toNat < (1000 - (k : Int)).toNat := by omega
      rw [hbest]
      refine ⟨_, rfl, _, den67 k (by omega), ?_⟩
      refine ⟨_, rfl, _, den71 _ _ (by omega) (by omega), ?_⟩
      refine ⟨fun h4 => ?_, fun h4 => ?_⟩
      · have h4 : befB (yardsZ k) (yardsZ best) = true := h4
        refine ⟨_, rfl, _, den60 s l hok k (by omega), ?_⟩
        refine ⟨fun h5 => ?_, fun h5 => ?_⟩
        · have h5 : s.expl l k = true := h5
          have hb : bestN (s.expl l) s.all (k + 1) = k := by unfold bestN; rw [hbest, h4, h5]; rfl
          refine ⟨(k : Int) + 1, wrap64 (by omega) (by omega), ?_⟩
          exact ⟨⟨rfl, rfl⟩, ⟨k + 1, hk', by rw [hb]; rfl⟩, less⟩
        · have h5 : s.expl l k = false := h5
          have hb : bestN (s.expl l) s.all (k + 1) = best := by unfold bestN; rw [hbest, h4, h5]; rfl
          refine ⟨(k : Int) + 1, wrap64 (by omega) (by omega), ?_⟩
          exact ⟨⟨rfl, rfl⟩, ⟨k + 1, hk', by rw [hb]; rfl⟩, less⟩
      · have h4 : befB (yardsZ k) (yardsZ best) = false := h4
        have hb : bestN (s.expl l) s.all (k + 1) = best := by unfold bestN; rw [hbest, h4]; rfl
        refine ⟨(k : Int) + 1, wrap64 (by omega) (by omega), ?_⟩
        exact ⟨⟨rfl, rfl⟩, ⟨k + 1, hk', by rw [hb]; rfl⟩, less⟩
    · have h3 : ¬ (k : Int) < ((s.all : Nat) : Int) := of_decide_eq_false h3
      have hk' : k = s.all := by omega
      exact late _ _ (by rw [hr, hk'])
  · have hne : (s.enterE l != 0) = true := by simpa using h0
    have hr : s.fewestR l = ([], s.enterE l) := by unfold Sh.fewestR; rw [hne]
    rw [hr]
    have h65 : DN 65 [.agg s.enc, .list 4 (l.map Smp.enc), .int .i64 (s.openE l)] (.int .i64 (s.enterE l)) := h65
    obtain ⟨e, he⟩ : ∃ e, s.enterE l = e := ⟨_, rfl⟩
    rw [he] at h65 h0 ⊢
    refine mkW Tryd.func28 Tryd.call28 rfl rfl ?_
    refine Or.inl ⟨by kernel_rfl, ?_⟩
    refine ⟨_, rfl, _, den43 s l, ?_⟩
    refine ⟨_, rfl, _, h65, ?_⟩
    refine ⟨fun _ => ?_, fun h => absurd (by simpa using h) h0⟩
    exact early e

end Go.Proofs.Water

namespace Go.Proofs.Water
open Go.V Go.Proofs

/-- Whether a yard can be in one of the first samples with a find. -/
def Sh.srcB (s : Sh) (l : List Smp) (n y : Nat) : Bool := (List.range n).any fun i => foundAt l i && (s.can l (2 ^ i)).testBit y
theorem src_can {s : Sh} {l : List Smp} (h : s.Ok l) : setOf 5 (s.srcB l l.length) = s.can l (fnd l) := by
  apply Nat.eq_of_testBit_eq
  intro y
  rw [setOf_bit]
  apply Bool.eq_iff_iff.2
  rw [can_bit h.v h.ll, Bool.and_eq_true, decide_eq_true_eq]
  unfold Sh.srcB
  rw [List.any_eq_true]
  constructor
  · rintro ⟨hy, i, hi, hc⟩
    rw [Bool.and_eq_true, can_bit h.v h.ll] at hc
    obtain ⟨hf, d, hd, j, x, hx, hb, hcc⟩ := hc
    rw [pow_bit] at hb
    have : j = i := by simpa using hb
    subst this
    exact ⟨d, hd, j, x, hx, by rw [fnd_bit]; exact hf, hcc⟩
  · rintro ⟨d, hd, i, x, hx, hb, hc⟩
    rw [fnd_bit] at hb
    have hil : i < l.length := (List.getElem?_eq_some_iff.1 hx).1
    have hcan : (s.can l (2 ^ i)).testBit y = true := (can_bit h.v h.ll (2 ^ i) y).2 ⟨d, hd, i, x, hx, by rw [pow_bit]; simp, hc⟩
    have hy : y < 5 := by
      unfold Sh.can Sh.canF at hcan
      rw [canP_bit, Bool.and_eq_true, decide_eq_true_eq] at hcan
      exact hcan.1
    exact ⟨hy, i, List.mem_range.2 hil, by rw [hb, hcan]; rfl⟩

theorem can_lt (s : Sh) (l : List Smp) (sm : Nat) : s.can l sm < 32 := canP_lt _ _ _ _ _
theorem can_yard {s : Sh} (hv : s.Valid) {l : List Smp} (hl : l.length ≤ 8) {sm y : Nat} (h : (s.can l sm).testBit y = true) : y < s.yards.length := by
  obtain ⟨d, _, i, x, _, _, hc⟩ := (can_bit hv hl sm y).1 h
  unfold Sh.canAt at hc
  rw [Bool.and_eq_true, List.any_eq_true] at hc
  obtain ⟨_, q, hq, hh⟩ := hc
  rw [Bool.and_eq_true] at hh
  have h1 := (spills_mem hq).1
  have h2 : q.1 = y := by simpa using hh.1
  omega

set_option maxRecDepth 4000 in
set_option maxHeartbeats 2000000 in
theorem den24 (s : Sh) (l : List Smp) : DN 24 [.agg s.enc, .list 4 (l.map Smp.enc)] (listD (s.sourcesR l)) := by
  have h65 := den65 s l (s.openE l) fun h => ok_of h
  by_cases h0 : s.enterE l = 0
  · obtain ⟨h1, h2⟩ := enter_ok h0
    have hok := ok_of h1
    have hll := hok.ll
    have hyl := hok.v.yl
    have hr : s.sourcesR l = (yardsZ (s.can l (fnd l)), 0) := by unfold Sh.sourcesR; rw [h0]; rfl
    have h65' : DN 65 [.agg s.enc, .list 4 (l.map Smp.enc), .int .i64 (s.openE l)] (.int .i64 0) := by
      have : s.agreedE l (s.openE l) = 0 := h0
      rw [this] at h65; exact h65
    refine mkW Tryd.func24 Tryd.call24 rfl rfl ?_
    refine Or.inl ⟨by kernel_rfl, ?_⟩
    refine ⟨_, rfl, _, den43 s l, ?_⟩
    refine ⟨_, rfl, _, h65', ?_⟩
    refine ⟨(fun h => nomatch h), fun _ => ?_⟩
    refine ⟨[1, 2, 7, 8], 1, [], fun σ => ∃ i : Nat, i ≤ l.length ∧
      σ = ⟨[(1, .list 4 (l.map Smp.enc)), (2, .loc 0 0), (7, .int .i64 ((setOf 5 (s.srcB l i) : Nat) : Int)), (8, .int .i64 i)], [.flat false s.enc], .non⟩,
      fun σ => (1000 - slotI 8 σ).toNat, rfl, ⟨rfl, rfl⟩, ⟨0, Nat.zero_le _, rfl⟩, ?_⟩
    rintro σ ⟨i, hi, rfl⟩
    refine ⟨fun h3 => ?_, fun h3 => ?_⟩
    · have h3 := of_decide_eq_true h3
      rw [smp_lenI] at h3
      have hi' : i < l.length := by omega
      obtain ⟨x, hxx⟩ : ∃ x, l[i] = x := ⟨_, rfl⟩
      have hrow : (l.map Smp.enc)[((i : Int)).toNat]? = some (x.enc) := by simp [hi', hxx]
      have hfa : foundAt l i = x.found := foundAt_get (by rw [List.getElem?_eq_getElem hi', hxx])
      have less : (1000 - ((i : Int) + 1)).toNat < (1000 - (i : Int)).toNat := by omega
      have hnext : ∀ y, s.srcB l (i + 1) y = (s.srcB l i y || (x.found && (s.can l (2 ^ i)).testBit y)) := fun y => by
        unfold Sh.srcB
        rw [List.range_succ, List.any_append]
        simp [hfa]
      refine ⟨by omega, _, hrow, ?_⟩
      refine ⟨fun h4 => ?_, fun h4 => ?_⟩
      · have h4 : x.found = true := h4
        obtain ⟨some', hso⟩ : ∃ c, s.can l (2 ^ i) = c := ⟨_, rfl⟩
        have hc32 : some' < 32 := by rw [← hso]; exact can_lt _ _ _
        have hcy : ∀ y, some'.testBit y = true → y < s.yards.length := fun y h => can_yard hok.v hll (sm := 2 ^ i) (by rw [hso]; exact h)
        have h68 := den68 s l hok i hi'
        rw [hso] at h68
        obtain ⟨pre, hpre⟩ : ∃ pre, s.srcB l i = pre := ⟨_, rfl⟩
        have hS0 : setOf 5 pre = setOf 5 (fun z => pre z || (decide (z < 0) && some'.testBit z)) := setOf_congr fun z _ => by simp
        rw [hpre, hS0]
        refine ⟨_, rfl, _, h68, ?_⟩
        refine ⟨[1, 2, 7, 8, 9, 10], 1, [], fun σ => ∃ y : Nat, y ≤ s.yards.length ∧
          σ = ⟨[(1, .list 4 (l.map Smp.enc)), (2, .loc 0 0), (7, .int .i64 ((setOf 5 (fun z => pre z || (decide (z < y) && some'.testBit z)) : Nat) : Int)), (8, .int .i64 i), (9, .int .i64 some'), (10, .int .i64 y)], [.flat false s.enc], .non⟩,
          fun σ => (1000 - slotI 10 σ).toNat, rfl, ⟨rfl, rfl⟩, ⟨0, Nat.zero_le _, rfl⟩, ?_⟩
        rintro σ ⟨y, hy, rfl⟩
        obtain ⟨pk, hpk⟩ : ∃ pk : Nat → Bool, (fun z => pre z || (decide (z < y) && some'.testBit z)) = pk := ⟨_, rfl⟩
        have hset := setOf_lt pk 5
        rw [hpk]
        refine ⟨fun h5 => ?_, fun h5 => ?_⟩
        · have h5 := of_decide_eq_true h5
          rw [yd_len] at h5
          have hy' : y < s.yards.length := by omega
          have less2 : (1000 - ((y : Int) + 1)).toNat < (1000 - (y : Int)).toNat := by omega
          have hbit : (setOf 5 pk).testBit y = pk y := by
            rw [setOf_bit]
            have : y < 5 := by omega
            simp [this]
          have hx46 := den46 (setOf 5 pk) y (by omega) (by omega)
          rw [hbit] at hx46
          have hn2 : ∀ z, (pre z || (decide (z < y + 1) && some'.testBit z)) = (pk z || (z == y && some'.testBit y)) := fun z => by
            rw [← hpk]
            simp only
            by_cases hz : z = y
            · subst hz; simp
            · have e1 : (z == y) = false := by simpa using hz
              have e2 : decide (z < y + 1) = decide (z < y) := by apply Bool.eq_iff_iff.2; simp; omega
              rw [e1, e2]; simp
          have skip : (pk y = true ∨ some'.testBit y = false) → setOf 5 pk = setOf 5 (fun z => pre z || (decide (z < y + 1) && some'.testBit z)) := fun hh => by
            refine setOf_congr fun z _ => ?_
            rw [hn2]
            rcases hh with hh | hh
            · by_cases hz : z = y
              · subst hz; simp [hh]
              · have e1 : (z == y) = false := by simpa using hz
                simp [e1]
            · simp [hh]
          have take : pk y = false → some'.testBit y = true → setOf 5 pk + 2 ^ y = setOf 5 (fun z => pre z || (decide (z < y + 1) && some'.testBit z)) := fun h6 h7 => by
            refine setOf_addbit (by omega) h6 fun z => ?_
            rw [hn2, h7, Bool.and_true]
          have hp5 : 2 ^ y ≤ 2 ^ 5 := Nat.pow_le_pow_right (by decide) (by omega)
          refine ⟨_, rfl, _, den46 some' y (by omega) (by omega), ?_⟩
          refine ⟨fun h6 => ?_, fun h6 => ?_⟩
          · have h6 : some'.testBit y = true := h6
            refine ⟨_, rfl, _, hx46, ?_⟩
            refine ⟨fun h7 => ?_, fun h7 => ?_⟩
            · have h7 : pk y = false := by simpa using h7
              have ht := take h7 h6
              refine ⟨_, rfl, _, den50 y (by omega), ?_⟩
              refine ⟨((setOf 5 pk + 2 ^ y : Nat) : Int), ?_, ?_⟩
              · have e : ((setOf 5 pk : Nat) : Int) + ((2 ^ y : Nat) : Int) = ((setOf 5 pk + 2 ^ y : Nat) : Int) := (Int.natCast_add _ _).symm
                exact (congrArg IntKind.i64.wrap e).trans (wrap64 (by omega) (by omega))
              refine ⟨(y : Int) + 1, wrap64 (by omega) (by omega), ?_⟩
              exact ⟨⟨rfl, rfl⟩, ⟨y + 1, hy', by rw [← ht]; rfl⟩, less2⟩
            · have h7 : pk y = true := by simpa using h7
              refine ⟨(y : Int) + 1, wrap64 (by omega) (by omega), ?_⟩
              exact ⟨⟨rfl, rfl⟩, ⟨y + 1, hy', by rw [← skip (.inl h7)]; rfl⟩, less2⟩
          · have h6 : some'.testBit y = false := h6
            refine ⟨(y : Int) + 1, wrap64 (by omega) (by omega), ?_⟩
            exact ⟨⟨rfl, rfl⟩, ⟨y + 1, hy', by rw [← skip (.inr h6)]; rfl⟩, less2⟩
        · have h5 := of_decide_eq_false h5
          rw [yd_len] at h5
          have hfull : setOf 5 pk = setOf 5 (s.srcB l (i + 1)) := by
            refine setOf_congr fun z _ => ?_
            rw [hnext, h4, hso, hpre, ← hpk]
            simp only
            cases hz : some'.testBit z with
            | false => simp
            | true =>
              have := hcy z hz
              have e : decide (z < y) = true := decide_eq_true (by omega)
              rw [e]
          refine ⟨(i : Int) + 1, wrap64 (by omega) (by omega), ?_⟩
          exact ⟨⟨rfl, rfl⟩, ⟨i + 1, hi', by rw [← hfull]; rfl⟩, less⟩
      · have h4 : x.found = false := h4
        have hfull : setOf 5 (s.srcB l i) = setOf 5 (s.srcB l (i + 1)) := setOf_congr fun z _ => by rw [hnext, h4]; simp
        refine ⟨(i : Int) + 1, wrap64 (by omega) (by omega), ?_⟩
        exact ⟨⟨rfl, rfl⟩, ⟨i + 1, hi', by rw [← hfull]; rfl⟩, less⟩
    · have h3 := of_decide_eq_false h3
      rw [smp_lenI] at h3
      have hi' : i = l.length := by omega
      have hlt : setOf 5 (s.srcB l i) < 2 ^ 62 := Nat.lt_trans (setOf_lt _ 5) (by decide)
      refine ⟨_, rfl, _, den67 _ hlt, ?_⟩
      exact late _ _ (by rw [hr, hi', src_can hok])
  · have hne : (s.enterE l != 0) = true := by simpa using h0
    have hr : s.sourcesR l = ([], s.enterE l) := by unfold Sh.sourcesR; rw [hne]
    rw [hr]
    have h65 : DN 65 [.agg s.enc, .list 4 (l.map Smp.enc), .int .i64 (s.openE l)] (.int .i64 (s.enterE l)) := h65
    obtain ⟨e, he⟩ : ∃ e, s.enterE l = e := ⟨_, rfl⟩
    rw [he] at h65 h0 ⊢
    refine mkW Tryd.func24 Tryd.call24 rfl rfl ?_
    refine Or.inl ⟨by kernel_rfl, ?_⟩
    refine ⟨_, rfl, _, den43 s l, ?_⟩
    refine ⟨_, rfl, _, h65, ?_⟩
    refine ⟨fun _ => ?_, fun h => absurd (by simpa using h) h0⟩
    exact early e

end Go.Proofs.Water
