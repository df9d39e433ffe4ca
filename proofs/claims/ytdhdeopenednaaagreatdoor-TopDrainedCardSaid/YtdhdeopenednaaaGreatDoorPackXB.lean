/- The error of a shore and samples, in the reference; sets of all yards; one of the samples; Whether a spill is in a sample; Which spills are seen; All ways in which water can drift, as the program yields them; The iterators of the program; The truths of a shore: the iterator of the program; Explain and can, in the program; Agree, Can, Sources, in the program; Sources, Must, Fewest, in the program; How many yards a further sample leaves, in the program. No condition. -/
import Derived.Test.YtdhdeopenednaaaGreatDoorPackXA
import Derived.Test.YtdhdeopenednaaaGreatDoorPackVI

namespace Go.Proofs.Water
open Go.V Go.Proofs Go.Proofs.Top

theorem lstE_zero {s : Sh} : ∀ {l : List Smp}, s.lstE l = 0 ↔ ∀ x ∈ l, s.smpE x = 0
  | [] => by simp [Sh.lstE]
  | x :: l => by
    have ih := lstE_zero (s := s) (l := l)
    unfold Sh.lstE
    cases h : s.smpE x != 0 with
    | true =>
      have h : ¬ s.smpE x = 0 := by simpa using h
      simp only
      exact ⟨fun e => absurd e h, fun e => absurd (e x (by simp)) h⟩
    | false =>
      have h : s.smpE x = 0 := by simpa using h
      simp only [ih, List.mem_cons, forall_eq_or_imp, h, true_and]

theorem goodN_all {s : Sh} : ∀ {l : List Smp}, s.lstE l = 0 → s.goodN l = l.length
  | [], _ => rfl
  | x :: l, h => by
    unfold Sh.lstE at h
    unfold Sh.goodN
    cases h1 : s.smpE x != 0 with
    | true => rw [h1] at h; have h1 : ¬ s.smpE x = 0 := by simpa using h1
              exact absurd h h1
    | false => rw [h1] at h; show s.goodN l + 1 = l.length + 1; rw [goodN_all h]

/-- A shore and samples with no error. -/
structure Sh.Ok (s : Sh) (l : List Smp) : Prop where
  v : s.Valid
  ll : l.length ≤ 8
  x : ∀ x ∈ l, (0 ≤ x.tide ∧ x.tide < s.drifts.length) ∧ (0 ≤ x.kind ∧ x.kind ≤ 1) ∧ 0 ≤ x.place ∧ x.place ≤ 100

theorem smpE_zero {s : Sh} {x : Smp} : s.smpE x = 0 ↔ (0 ≤ x.tide ∧ x.tide < s.drifts.length) ∧ (0 ≤ x.kind ∧ x.kind ≤ 1) ∧ 0 ≤ x.place ∧ x.place ≤ 100 := by
  unfold Sh.smpE
  cases h1 : [x.tide].any (outB 0 ((s.drifts.length : Int) - 1)) || [x.kind].any (outB 0 1) with
  | true =>
    refine ⟨fun h => (by cases h), fun h => ?_⟩
    exfalso
    simp [outB] at h1
    omega
  | false =>
    simp [outB] at h1
    cases h2 : [x.place].any (outB 0 100) with
    | true =>
      refine ⟨fun h => (by cases h), fun h => ?_⟩
      simp [outB] at h2
      omega
    | false =>
      simp [outB] at h2
      refine ⟨fun _ => ?_, fun _ => rfl⟩
      omega

theorem ok_of {s : Sh} {l : List Smp} (h : s.openE l = 0) : s.Ok l := by
  unfold Sh.openE at h
  cases h1 : s.err0 != 0 with
  | true =>
    rw [h1] at h
    have h1 : ¬ s.err0 = 0 := by simpa using h1
    exact absurd h h1
  | false =>
    rw [h1] at h
    cases h2 : decide ((l.length : Int) > 8) with
    | true => rw [h2] at h; cases h
    | false =>
      rw [h2] at h
      have h2 := of_decide_eq_false h2
      exact ⟨valid_of (by simpa using h1), by omega, fun x hx => smpE_zero.1 (lstE_zero.1 h x hx)⟩

/-- The set of the samples in which something was found. -/
def fnd (l : List Smp) : Nat := setOf l.length (foundAt l)
theorem opened_ok {s : Sh} {l : List Smp} (h : s.openE l = 0) : s.opened l = s.encS l ((fnd l : Nat) : Int) := by
  unfold Sh.openE at h
  unfold Sh.opened
  cases h1 : s.err0 != 0 with
  | true =>
    rw [h1] at h
    have h1 : ¬ s.err0 = 0 := by simpa using h1
    exact absurd h h1
  | false =>
    rw [h1] at h
    cases h2 : decide ((l.length : Int) > 8) with
    | true => rw [h2] at h; cases h
    | false =>
      rw [h2] at h
      show s.encS l _ = _
      rw [goodN_all h]; rfl

/-- All yards. -/
def Sh.all (s : Sh) : Nat := 2 ^ s.yards.length - 1
theorem all_lt {s : Sh} (h : s.Valid) : s.all < 32 := by
  have := h.yl
  have h2 : 2 ^ s.yards.length ≤ 2 ^ 5 := Nat.pow_le_pow_right (by decide) this.2
  unfold Sh.all; omega
theorem all_bit (s : Sh) (i : Nat) : s.all.testBit i = decide (i < s.yards.length) := by unfold Sh.all; exact Nat.testBit_two_pow_sub_one ..

theorem den58 (s : Sh) (l : List Smp) (f : Int) (h : s.yards.length ≤ 5) : DN 58 [.agg (s.encS l f)] (.int .i64 (s.all : Nat)) := by
  refine mk Tryz.func58 Tryz.call58 rfl rfl ?_
  have h2 : 2 ^ s.yards.length ≤ 2 ^ 5 := Nat.pow_le_pow_right (by decide) h
  have h3 : 0 < 2 ^ s.yards.length := Nat.two_pow_pos _
  have h1 := shl1 s.yards.length (by omega)
  refine ⟨Int.natCast_nonneg _, ((2 ^ s.yards.length : Nat) : Int), ?_, ?_⟩
  · rw [← h1, ← yd_len]
  refine ⟨((s.all : Nat) : Int), ?_, rfl⟩
  have e : ((2 ^ s.yards.length : Nat) : Int) - 1 = ((s.all : Nat) : Int) := by unfold Sh.all; omega
  exact (congrArg IntKind.i64.wrap e).trans (wrap64 (by unfold Sh.all; omega) (by unfold Sh.all; omega))

/-- The error of the number of a sample. -/
def givenE (l : List Smp) (n : Int) : Int := match [n].any (outB 0 ((l.length : Int) - 1)) with
  | true => 4
  | false => match foundAt l n.toNat with | true => 0 | false => 2

theorem den63 (s : Sh) (l : List Smp) (f n : Int) (hl : l.length ≤ 8) : DN 63 [.agg (s.encS l f), .int .i64 n] (.int .i64 (givenE l n)) := by
  refine mk Tryz.func63 Tryz.call63 rfl rfl ?_
  refine ⟨(l.length : Int) - 1, ?_, ?_⟩
  · show IntKind.i64.wrap (((l.map Smp.enc).length : Int) - 1) = _
    rw [smp_lenI]; exact wrap64 (by omega) (by omega)
  refine ⟨_, rfl, _, den74 [n] 0 ((l.length : Int) - 1) (by simp), ?_⟩
  refine ⟨fun h1 => ?_, fun h1 => ?_⟩
  · show some (D.int .i64 4) = some (D.int .i64 _)
    rw [givenE, h1]
  have hn : 0 ≤ n ∧ n < l.length := by simp [outB] at h1; omega
  have hi : n.toNat < l.length := by omega
  have hrow : (l.map Smp.enc)[n.toNat]? = some (l[n.toNat].enc) := by simp [hi]
  have hfa : foundAt l n.toNat = l[n.toNat].found := by unfold foundAt; rw [List.getElem?_eq_getElem hi]
  refine ⟨by omega, _, hrow, ?_⟩
  refine ⟨fun h2 => ?_, fun h2 => ?_⟩
  · have h2 : l[n.toNat].found = false := by simpa using h2
    show some (D.int .i64 2) = some (D.int .i64 _)
    rw [givenE, h1, hfa, h2]
  · have h2 : l[n.toNat].found = true := by simpa using h2
    show some (D.int .i64 0) = some (D.int .i64 _)
    rw [givenE, h1, hfa, h2]

/-- The error of a shore, samples and the number of one. -/
def Sh.foundE (s : Sh) (l : List Smp) (n : Int) : Int := match s.openE l == 0 with
  | true => givenE l n
  | false => s.openE l

end Go.Proofs.Water

namespace Go.Proofs.Water
open Go.V Go.Proofs Go.Proofs.Top

def Sh.atY (s : Sh) (y : Nat) : Int := match s.yards[y]? with | some v => v.at' | none => 0
def Sh.kindsY (s : Sh) (y : Nat) : Nat := match s.yards[y]? with | some v => v.kinds.toNat | none => 0
def dAt (d : List Int) (i : Nat) : Int := match d[i]? with | some v => v | none => 0
def sumN (d : List Int) (t : Nat) : Nat → Int
  | 0 => 0
  | k + 1 => sumN d t k + dAt d (t + k)
def encQ (y k t : Nat) : List D := [.int .i64 y, .int .i64 k, .int .i64 t]
/-- A spill is in a sample, if water drifts so. -/
def Sh.inS (s : Sh) (d : List Int) (y k t : Nat) (x : Smp) : Bool :=
  (x.kind == (k : Int)) && (decide ((t : Int) ≤ x.tide) && inR (s.atY y + sumN d t (x.tide.toNat + 1 - t)) (x.place - s.spread) (x.place + s.spread))

/-- How water drifts at a shore. -/
structure Drf (s : Sh) (d : List Int) : Prop where
  len : d.length = s.drifts.length
  b : ∀ v ∈ d, -10 ≤ v ∧ v ≤ 10

theorem dAt_b {s : Sh} {d : List Int} (h : Drf s d) (i : Nat) : -10 ≤ dAt d i ∧ dAt d i ≤ 10 := by
  unfold dAt
  cases hv : d[i]? with
  | none => exact ⟨by decide, by decide⟩
  | some v => exact h.b v (List.mem_of_getElem? hv)
theorem sumN_b {s : Sh} {d : List Int} (h : Drf s d) (t : Nat) : ∀ k : Nat, -10 * (k : Int) ≤ sumN d t k ∧ sumN d t k ≤ 10 * (k : Int)
  | 0 => ⟨Int.le_refl 0, Int.le_refl 0⟩
  | k + 1 => by
    have h1 := sumN_b h t k
    have h2 := dAt_b h (t + k)
    unfold sumN
    omega
theorem atY_b {s : Sh} (h : s.Valid) (y : Nat) : 0 ≤ s.atY y ∧ s.atY y ≤ 100 := by
  unfold Sh.atY
  cases hv : s.yards[y]? with
  | none => exact ⟨by decide, by decide⟩
  | some v => exact (h.y v (List.mem_of_getElem? hv)).1
theorem atY_get {s : Sh} {y : Nat} (h : y < s.yards.length) : s.atY y = s.yards[y].at' := by
  unfold Sh.atY; rw [List.getElem?_eq_getElem h]
theorem dAt_get {d : List Int} {i : Nat} (h : i < d.length) : dAt d i = d[i] := by
  unfold dAt; rw [List.getElem?_eq_getElem h]

def Sh.okX (s : Sh) (x : Smp) : Prop := (0 ≤ x.tide ∧ x.tide < s.drifts.length) ∧ (0 ≤ x.kind ∧ x.kind ≤ 1) ∧ 0 ≤ x.place ∧ x.place ≤ 100

theorem den17 (s : Sh) (hv : s.Valid) (d : List Int) (hd : Drf s d) (y k t : Nat) (hy : y < s.yards.length) (x : Smp) (hx : s.okX x) :
    DN 17 [.agg s.enc, .list 1 (d.map encI), .agg (encQ y k t), .agg x.enc] (.bool (s.inS d y k t x)) := by
  refine mk Tryz.func17 Tryz.call17 rfl rfl ?_
  obtain ⟨⟨hx1, hx2⟩, hx3, hx4, hx5⟩ := hx
  have hdl := hv.dl
  have hsp := hv.sp
  have hfalse : ((x.kind == (k : Int)) && decide ((t : Int) ≤ x.tide)) = false → some (D.bool false) = some (D.bool (s.inS d y k t x)) := fun h => by
    unfold Sh.inS
    rw [← Bool.and_assoc, h]; rfl
  refine ⟨fun h1 => ?_, fun h1 => ?_⟩
  · have h1 : ((k : Int) != x.kind) = true := h1
    refine hfalse ?_
    have : (x.kind == (k : Int)) = false := by simp at h1 ⊢; omega
    rw [this]; rfl
  have h1 : ((k : Int) != x.kind) = false := h1
  refine ⟨fun h2 => ?_, fun h2 => ?_⟩
  · have h2 : (t : Int) > x.tide := of_decide_eq_true h2
    refine hfalse ?_
    have : decide ((t : Int) ≤ x.tide) = false := decide_eq_false (by omega)
    rw [this, Bool.and_false]
  have h2 : ¬ (t : Int) > x.tide := of_decide_eq_false h2
  have hin : s.inS d y k t x = inR (s.atY y + sumN d t (x.tide.toNat + 1 - t)) (x.place - s.spread) (x.place + s.spread) := by
    have e1 : (x.kind == (k : Int)) = true := by simp at h1 ⊢; omega
    have e2 : decide ((t : Int) ≤ x.tide) = true := decide_eq_true (by omega)
    unfold Sh.inS
    rw [e1, e2]; rfl
  have hrow : (s.yards.map Yd.enc)[((y : Int)).toNat]? = some (s.yards[y].enc) := by simp [hy]
  refine ⟨by omega, _, hrow, ?_⟩
  refine ⟨[1, 4, 6, 7, 9, 10], 3, [], fun σ => ∃ j : Nat, t + j ≤ x.tide.toNat + 1 ∧
    σ = ⟨[(1, .list 1 (d.map encI)), (4, .loc 0 0), (6, .loc 1 0), (7, .loc 2 0), (9, .int .i64 (s.atY y + sumN d t j)), (10, .int .i64 ((t + j : Nat) : Int))], [.flat false s.enc, .flat false (encQ y k t), .flat false x.enc], .non⟩,
    fun σ => (1000 - slotI 10 σ).toNat, rfl, ⟨rfl, rfl⟩, ⟨0, by omega, ?_⟩, ?_⟩
  · rw [atY_get hy]
    show _ = (⟨[(1, _), (4, _), (6, _), (7, _), (9, .int .i64 (s.yards[y].at' + 0)), (10, _)], _, _⟩ : St)
    rw [Int.add_zero]
    rfl
  rintro σ ⟨j, hj, rfl⟩
  have hb1 := sumN_b hd t j
  have hb2 := atY_b hv y
  refine ⟨fun h3 => ?_, fun h3 => ?_⟩
  · have h3 : ((t + j : Nat) : Int) ≤ x.tide := of_decide_eq_true h3
    have hi : t + j < d.length := by rw [hd.len]; omega
    have hb3 := dAt_b hd (t + j)
    refine ⟨by omega, _, encI_get hi, ?_⟩
    refine ⟨s.atY y + sumN d t (j + 1), ?_, ?_⟩
    · have : s.atY y + sumN d t j + d[t + j] = s.atY y + sumN d t (j + 1) := by
        rw [← dAt_get hi]; show _ = s.atY y + (sumN d t j + dAt d (t + j)); omega
      refine (congrArg IntKind.i64.wrap this).trans (wrap64 ?_ ?_)
      all_goals
        show _ ≤ _
        have : sumN d t (j + 1) = sumN d t j + dAt d (t + j) := rfl
        omega
    refine ⟨_, wrap64 (by omega) (by omega), ?_⟩
    exact ⟨⟨rfl, rfl⟩, ⟨j + 1, by omega, rfl⟩, by show (1000 - (((t + j : Nat) : Int) + 1)).toNat < (1000 - ((t + j : Nat) : Int)).toNat; omega⟩
  · have h3 : ¬ ((t + j : Nat) : Int) ≤ x.tide := of_decide_eq_false h3
    have hj2 : j = x.tide.toNat + 1 - t := by omega
    subst hj2
    refine ⟨_, wrap64 (by omega) (by omega), ?_⟩
    refine ⟨_, wrap64 (by omega) (by omega), ?_⟩
    refine ⟨_, rfl, _, den24 _ _ _, ?_⟩
    show some (D.bool _) = some (D.bool _)
    rw [hin]

/-- Drifts on three tides. -/
def D3 (d : List Int) : List D := [.int .i64 (dAt d 0), .int .i64 (dAt d 1), .int .i64 (dAt d 2)]
theorem D3_get (d : List Int) {i : Nat} (h : i < 3) : (D3 d)[i]? = some (.int .i64 (dAt d i)) := by
  match i, h with
  | 0, _ => rfl
  | 1, _ => rfl
  | 2, _ => rfl

def Sh.inAt (s : Sh) (d : List Int) (y k t : Nat) (l : List Smp) (j : Nat) : Bool := match l[j]? with | some x => s.inS d y k t x | none => false
/-- The samples in which a spill is. -/
def Sh.inSet (s : Sh) (d : List Int) (y k t : Nat) (l : List Smp) : Nat := setOf l.length (s.inAt d y k t l)

theorem eqQ (y k t : Nat) (kind : Int) : (((y : Int) == (y : Int)) && ((kind == (k : Int)) && (((t : Int) == (t : Int)) && true))) = (kind == (k : Int)) := by
  simp

theorem den112 (s : Sh) (hv : s.Valid) (d : List Int) (hd : Drf s d) (y k t : Nat) (hy : y < s.yards.length) (l : List Smp) (f : Int) (hl : l.length ≤ 8) (hx : ∀ x ∈ l, s.okX x) :
    DN 112 [.agg (s.encS l f), .agg (encQ y k t), .agg (D3 d)] (.int .i64 ((s.inSet d y k t l : Nat) : Int)) := by
  refine mk Tryz.func112 Tryz.call112 rfl rfl ?_
  have hdl := hv.dl
  have hsp := hv.sp
  refine ⟨[3, 4, 5, 6, 12, 13, 14], 3, [], fun σ => ∃ i : Nat, i ≤ l.length ∧
    σ = ⟨[(3, .loc 0 0), (4, .loc 1 0), (5, .loc 2 0), (6, .int .i64 ((setOf i (s.inAt d y k t l) : Nat) : Int)), (12, .list 4 (l.map Smp.enc)), (13, .int .i64 (l.map Smp.enc).length), (14, .int .i64 i)], [.flat false (s.encS l f), .flat false (encQ y k t), .flat false (D3 d)], .non⟩,
    fun σ => (1000 - slotI 14 σ).toNat, rfl, ⟨rfl, rfl⟩, ⟨0, Nat.zero_le _, rfl⟩, ?_⟩
  rintro σ ⟨i, hi, rfl⟩
  refine ⟨fun h1 => ?_, fun h1 => ?_⟩
  · have h1 := of_decide_eq_true h1
    rw [smp_lenI] at h1
    have hi' : i < l.length := by omega
    obtain ⟨x, hxx⟩ : ∃ x, l[i] = x := ⟨_, rfl⟩
    have hrow : (l.map Smp.enc)[((i : Int)).toNat]? = some (x.enc) := by simp [hi', hxx]
    obtain ⟨⟨hx1, hx2⟩, hx3, hx4, hx5⟩ := hx x (by rw [← hxx]; exact List.getElem_mem hi')
    have hia : s.inAt d y k t l i = s.inS d y k t x := by unfold Sh.inAt; rw [List.getElem?_eq_getElem hi', hxx]
    have skip : s.inS d y k t x = false → setOf i (s.inAt d y k t l) = setOf (i + 1) (s.inAt d y k t l) := fun h => setOf_skip (by rw [hia]; exact h)
    refine ⟨by omega, _, hrow, ?_⟩
    refine ⟨fun h2 => ?_, fun h2 => ?_⟩
    · have h2 : (!(((y : Int) == (y : Int)) && ((x.kind == (k : Int)) && (((t : Int) == (t : Int)) && true)))) = true := h2
      rw [eqQ] at h2
      have h2 : (x.kind == (k : Int)) = false := by simpa using h2
      rw [skip (by unfold Sh.inS; rw [h2]; rfl)]
      refine ⟨_, wrap64 (by omega) (by omega), ?_⟩
      exact ⟨⟨rfl, rfl⟩, ⟨i + 1, hi', rfl⟩, by show (1000 - ((i : Int) + 1)).toNat < (1000 - (i : Int)).toNat; omega⟩
    have h2 : (!(((y : Int) == (y : Int)) && ((x.kind == (k : Int)) && (((t : Int) == (t : Int)) && true)))) = false := h2
    rw [eqQ] at h2
    have h2 : (x.kind == (k : Int)) = true := by simpa using h2
    have hrow2 : (s.yards.map Yd.enc)[((y : Int)).toNat]? = some (s.yards[y].enc) := by simp [hy]
    refine ⟨by omega, _, hrow2, ?_⟩
    refine ⟨[3, 4, 5, 6, 7, 8, 9, 10, 12, 13, 14], 4, [], fun σ => ∃ j : Nat, (j = 0 ∨ t + j ≤ x.tide.toNat + 1) ∧
      σ = ⟨[(3, .loc 0 0), (4, .loc 1 0), (5, .loc 2 0), (6, .int .i64 ((setOf i (s.inAt d y k t l) : Nat) : Int)), (7, .int .i64 i), (8, .loc 3 0), (9, .int .i64 (s.atY y + sumN d t j)), (10, .int .i64 ((t + j : Nat) : Int)), (12, .list 4 (l.map Smp.enc)), (13, .int .i64 (l.map Smp.enc).length), (14, .int .i64 i)],
        [.flat false (s.encS l f), .flat false (encQ y k t), .flat false (D3 d), .flat false x.enc], .non⟩,
      fun σ => (1000 - slotI 10 σ).toNat, rfl, ⟨rfl, rfl⟩, ⟨0, .inl rfl, ?_⟩, ?_⟩
    · rw [atY_get hy]
      show _ = (⟨[(3, _), (4, _), (5, _), (6, _), (7, _), (8, _), (9, .int .i64 (s.yards[y].at' + 0)), (10, _), (12, _), (13, _), (14, _)], _, _⟩ : St)
      rw [Int.add_zero]
      rfl
    rintro σ ⟨j, hj, rfl⟩
    have hb1 := sumN_b hd t j
    have hb2 := atY_b hv y
    have hjb : j ≤ 4 := by omega
    refine ⟨fun h3 => ?_, fun h3 => ?_⟩
    · have h3 : ((t + j : Nat) : Int) ≤ x.tide := of_decide_eq_true h3
      have hb3 := dAt_b hd (t + j)
      refine ⟨⟨by omega, by omega⟩, _, rfl, ?_⟩
      refine ⟨.int .i64 (dAt d (t + j)), ?_, ?_⟩
      · have e : 0 + ((t + j : Nat) : Int).toNat * 1 = t + j := by omega
        show (D3 d)[0 + ((t + j : Nat) : Int).toNat * 1]? = _
        rw [e]
        exact D3_get d (by omega)
      refine ⟨s.atY y + sumN d t (j + 1), ?_, ?_⟩
      · have : s.atY y + sumN d t j + dAt d (t + j) = s.atY y + sumN d t (j + 1) := by
          show _ = s.atY y + (sumN d t j + dAt d (t + j)); omega
        refine (congrArg IntKind.i64.wrap this).trans (wrap64 ?_ ?_)
        all_goals
          show _ ≤ _
          have : sumN d t (j + 1) = sumN d t j + dAt d (t + j) := rfl
          omega
      refine ⟨_, wrap64 (by omega) (by omega), ?_⟩
      exact ⟨⟨rfl, rfl⟩, ⟨j + 1, .inr (by omega), rfl⟩, by show (1000 - (((t + j : Nat) : Int) + 1)).toNat < (1000 - ((t + j : Nat) : Int)).toNat; omega⟩
    · have h3 : ¬ ((t + j : Nat) : Int) ≤ x.tide := of_decide_eq_false h3
      refine ⟨fun h4 => ?_, fun h4 => ?_⟩
      · have h4' : (t : Int) ≤ x.tide := of_decide_eq_true h4
        have hj2 : j = x.tide.toNat + 1 - t := by omega
        subst hj2
        refine ⟨_, wrap64 (by omega) (by omega), ?_⟩
        refine ⟨_, wrap64 (by omega) (by omega), ?_⟩
        refine ⟨_, rfl, _, den74 [s.atY y + sumN d t (x.tide.toNat + 1 - t)] (x.place - s.spread) (x.place + s.spread) (by simp), ?_⟩
        have hin : s.inS d y k t x = !([s.atY y + sumN d t (x.tide.toNat + 1 - t)].any (outB (x.place - s.spread) (x.place + s.spread))) := by
          have e2 : decide ((t : Int) ≤ x.tide) = true := decide_eq_true h4'
          rw [← any1]
          unfold Sh.inS
          rw [h2, e2]; simp
        refine ⟨fun h5 => ?_, fun h5 => ?_⟩
        · have h5 : s.inS d y k t x = true := by rw [hin]; exact h5
          refine ⟨by omega, _, shl1 i (by omega), ?_⟩
          refine ⟨_, bits_or (setOf_lt62 _ (by omega)) (pow_lt62 (by omega)), ?_⟩
          rw [setOf_or (by rw [hia]; exact h5)]
          refine ⟨_, wrap64 (by omega) (by omega), ?_⟩
          exact ⟨⟨rfl, rfl⟩, ⟨i + 1, hi', rfl⟩, by show (1000 - ((i : Int) + 1)).toNat < (1000 - (i : Int)).toNat; omega⟩
        · have h5 : s.inS d y k t x = false := by rw [hin]; exact h5
          rw [skip h5]
          refine ⟨_, wrap64 (by omega) (by omega), ?_⟩
          exact ⟨⟨rfl, rfl⟩, ⟨i + 1, hi', rfl⟩, by show (1000 - ((i : Int) + 1)).toNat < (1000 - (i : Int)).toNat; omega⟩
      · have h4' : ¬ (t : Int) ≤ x.tide := of_decide_eq_false h4
        have hf : s.inS d y k t x = false := by
          have e2 : decide ((t : Int) ≤ x.tide) = false := decide_eq_false h4'
          unfold Sh.inS
          rw [e2]; simp
        rw [skip hf]
        refine ⟨_, wrap64 (by omega) (by omega), ?_⟩
        exact ⟨⟨rfl, rfl⟩, ⟨i + 1, hi', rfl⟩, by show (1000 - ((i : Int) + 1)).toNat < (1000 - (i : Int)).toNat; omega⟩
  · have h1 := of_decide_eq_false h1
    rw [smp_lenI] at h1
    obtain rfl : i = l.length := by omega
    rfl

end Go.Proofs.Water

namespace Go.Proofs.Water
open Go.V Go.Proofs Go.Proofs.Top

theorem shr_nat (n k : Nat) (hk : k ≤ 60) : (n : Int).fdiv (2 ^ (min (k : Int).toNat IntKind.i64.bits)) = ((n / 2 ^ k : Nat) : Int) := by
  have h1 : min (k : Int).toNat IntKind.i64.bits = k := by show min k 64 = k; omega
  rw [h1]
  have h2 : (2 : Int) ^ k = ((2 ^ k : Nat) : Int) := (Int.natCast_pow 2 k).symm
  rw [h2, Int.fdiv_eq_ediv_of_nonneg _ (Int.natCast_nonneg _)]
  exact (Int.natCast_ediv _ _).symm
theorem div_lt {n k m : Nat} (h : n < m) : n / 2 ^ k < m := Nat.lt_of_le_of_lt (Nat.div_le_self _ _) h
theorem and1 (n k : Nat) : n / 2 ^ k &&& 1 = if n.testBit k then 1 else 0 := by
  rw [Nat.and_one_is_mod, Nat.testBit_eq_decide_div_mod_eq]
  have : n / 2 ^ k % 2 < 2 := Nat.mod_lt _ (by decide)
  by_cases h : n / 2 ^ k % 2 = 1
  · simp [h]
  · have h0 : n / 2 ^ k % 2 = 0 := by omega
    simp [h0]
theorem bit0 (n k : Nat) : (((n / 2 ^ k &&& 1 : Nat) : Int) == 0) = !(n.testBit k) := by
  rw [and1]; cases n.testBit k <;> rfl
theorem bit1 (n k : Nat) : (((n / 2 ^ k &&& 1 : Nat) : Int) == 1) = n.testBit k := by
  rw [and1]; cases n.testBit k <;> rfl

theorem kindsY_get {s : Sh} (hv : s.Valid) {y : Nat} (hy : y < s.yards.length) : s.yards[y].kinds = ((s.kindsY y : Nat) : Int) ∧ s.kindsY y < 4 := by
  have h := (hv.y s.yards[y] (List.getElem_mem hy)).2
  unfold Sh.kindsY
  rw [List.getElem?_eq_getElem hy]
  simp only
  omega

/-! ### Spills in their order -/

abbrev Q := Nat × Nat × Nat
def prefY (m y : Nat) : List Q := (List.range y).flatMap fun y => (List.range 2).flatMap fun k => (List.range m).map fun t => (y, k, t)
def prefK (m y k : Nat) : List Q := prefY m y ++ (List.range k).flatMap fun k => (List.range m).map fun t => (y, k, t)
def prefT (m y k t : Nat) : List Q := prefK m y k ++ (List.range t).map fun t => (y, k, t)
theorem prefK_zero (m y : Nat) : prefK m y 0 = prefY m y := by simp [prefK]
theorem prefT_zero (m y k : Nat) : prefT m y k 0 = prefK m y k := by simp [prefT]
theorem prefT_end (m y k : Nat) : prefT m y k m = prefK m y (k + 1) := by
  unfold prefT prefK
  rw [List.range_succ, List.flatMap_append, List.append_assoc]
  simp
theorem prefK_end (m y : Nat) : prefK m y 2 = prefY m (y + 1) := by
  unfold prefK prefY
  rw [show List.range (y + 1) = List.range y ++ [y] from List.range_succ, List.flatMap_append]
  simp
theorem prefT_succ (m y k t : Nat) : prefT m y k (t + 1) = prefT m y k t ++ [(y, k, t)] := by
  unfold prefT
  rw [List.range_succ, List.map_append, List.append_assoc]
  rfl
theorem prefY_mem {m n y k t : Nat} : (y, k, t) ∈ prefY m n ↔ y < n ∧ k < 2 ∧ t < m := by
  unfold prefY
  simp only [List.mem_flatMap, List.mem_range, List.mem_map, Prod.mk.injEq]
  constructor
  · rintro ⟨a, h1, b, h2, c, h3, rfl, rfl, rfl⟩; exact ⟨h1, h2, h3⟩
  · rintro ⟨h1, h2, h3⟩; exact ⟨y, h1, k, h2, t, h3, rfl, rfl, rfl⟩
theorem prefT_fresh {m y k t : Nat} : (y, k, t) ∉ prefT m y k t := by
  unfold prefT prefK
  simp only [List.mem_append, not_or]
  refine ⟨⟨fun h => ?_, fun h => ?_⟩, fun h => ?_⟩
  · have := (prefY_mem.1 h).1; omega
  · simp only [List.mem_flatMap, List.mem_range, List.mem_map, Prod.mk.injEq] at h
    obtain ⟨a, h1, c, h2, _, h3, _⟩ := h
    omega
  · simp only [List.mem_map, List.mem_range, Prod.mk.injEq] at h
    obtain ⟨a, h1, _, _, h2⟩ := h
    omega

def keyQ (q : Q) : D := .agg (encQ q.1 q.2.1 q.2.2)
theorem eqKD_Q (a b : Q) : eqKD (keyQ a) (keyQ b) = some (decide (a = b)) := by
  show some (((a.1 : Int) == (b.1 : Int)) && (((a.2.1 : Int) == (b.2.1 : Int)) && (((a.2.2 : Int) == (b.2.2 : Int)) && true))) = _
  congr 1
  obtain ⟨a1, a2, a3⟩ := a
  obtain ⟨b1, b2, b3⟩ := b
  apply Bool.eq_iff_iff.2
  simp
  omega
theorem findK_fresh {q : Q} : ∀ {L : List Q}, q ∉ L → findK (keyQ q) (L.map keyQ) = some none
  | [], _ => rfl
  | x :: r, h => by
    have h1 : q ≠ x := fun e => h (by simp [e])
    have ih := findK_fresh (q := q) (L := r) fun e => h (by simp [e])
    simp only [List.map_cons, findK, eqKD_Q, decide_eq_false h1, ih]

/-- A spill is seen: it is in some samples, and in none in which nothing was found. -/
def Sh.sees (s : Sh) (d : List Int) (l : List Smp) (f : Nat) (q : Q) : Bool :=
  (s.kindsY q.1).testBit q.2.1 && (!(s.inSet d q.1 q.2.1 q.2.2 l == 0) && diff (s.inSet d q.1 q.2.1 q.2.2 l) f == 0)
def Sh.setV (s : Sh) (d : List Int) (l : List Smp) (q : Q) : D := .int .i64 ((s.inSet d q.1 q.2.1 q.2.2 l : Nat) : Int)
def mapS (s : Sh) (d : List Int) (l : List Smp) (f : Nat) (L : List Q) : Box :=
  .map false ((L.filter (s.sees d l f)).map keyQ) ((L.filter (s.sees d l f)).map (s.setV d l))

theorem plainAll_map {α : Type} (g : α → D) (h : ∀ a, plain (g a) = true) : ∀ L : List α, plainAll (L.map g) = true
  | [] => rfl
  | a :: r => by
    simp only [List.map_cons, plainAll, h a]
    exact plainAll_map g h r
theorem mapS_new (s : Sh) (d : List Int) (l : List Smp) (f : Nat) (L : List Q) : newOK (mapS s d l f L) = true := by
  unfold mapS newOK
  simp only [plainAll_map keyQ (fun _ => rfl)]
  exact plainAll_map _ (fun _ => rfl) _
theorem mapS_skip {s : Sh} {d : List Int} {l : List Smp} {f m y k t : Nat} (h : s.sees d l f (y, k, t) = false) : mapS s d l f (prefT m y k t) = mapS s d l f (prefT m y k (t + 1)) := by
  unfold mapS
  rw [prefT_succ, List.filter_append]
  simp [h]
theorem mapS_keys {s : Sh} {d : List Int} {l : List Smp} {f m y k t : Nat} (h : s.sees d l f (y, k, t) = true) :
    ((prefT m y k t).filter (s.sees d l f)).map keyQ ++ [keyQ (y, k, t)] = ((prefT m y k (t + 1)).filter (s.sees d l f)).map keyQ := by
  rw [prefT_succ, List.filter_append]
  simp [h]
theorem mapS_vals {s : Sh} {d : List Int} {l : List Smp} {f m y k t : Nat} (h : s.sees d l f (y, k, t) = true) :
    ((prefT m y k t).filter (s.sees d l f)).map (s.setV d l) ++ [s.setV d l (y, k, t)] = ((prefT m y k (t + 1)).filter (s.sees d l f)).map (s.setV d l) := by
  rw [prefT_succ, List.filter_append]
  simp [h]
theorem mapS_fresh {s : Sh} {d : List Int} {l : List Smp} {f m y k t : Nat} : findK (keyQ (y, k, t)) (((prefT m y k t).filter (s.sees d l f)).map keyQ) = some none :=
  findK_fresh fun h => prefT_fresh (List.mem_filter.1 h).1

set_option maxRecDepth 4000 in
theorem den97 (s : Sh) (hv : s.Valid) (d : List Int) (hd : Drf s d) (l : List Smp) (f : Nat) (hf : f < 2 ^ 60) (hl : l.length ≤ 8) (hx : ∀ x ∈ l, s.okX x) :
    DenN Tryz.prog 97 [.agg (s.encS l f), .agg (D3 d)] (mapS s d l f (prefY s.drifts.length s.yards.length)) := by
  refine denN_of_Y (mapS_new _ _ _ _ _) ?_
  refine denY_of (sh := shW) (ish := ishW) Tryz.tok Tryz.mixed Tryz.func97 Tryz.call97 rfl rfl ?_
  have hdl := hv.dl
  have hyl := hv.yl
  obtain ⟨m, hm⟩ : ∃ m, s.drifts.length = m := ⟨_, rfl⟩
  have hml : ((s.drifts.map Sp.enc).length : Int) = m := by rw [sp_len, hm]
  rw [hm] at hdl ⊢
  refine ⟨[2, 3, 5, 15, 16, 17], 3, [], fun σ => ∃ y : Nat, y ≤ s.yards.length ∧
    σ = ⟨[(2, .loc 0 0), (3, .loc 1 0), (5, .mloc 2), (15, .list 3 (s.yards.map Yd.enc)), (16, .int .i64 (s.yards.map Yd.enc).length), (17, .int .i64 y)], [.flat false (s.encS l f), .flat false (D3 d), mapS s d l f (prefY m y)], .non⟩,
    fun σ => (1000 - slotI 17 σ).toNat, rfl, ⟨rfl, rfl⟩, ⟨0, Nat.zero_le _, rfl⟩, ?_⟩
  rintro σ ⟨y, hy, rfl⟩
  refine ⟨fun h1 => ?_, fun h1 => ?_⟩
  · have h1 := of_decide_eq_true h1
    rw [yd_len] at h1
    have hy' : y < s.yards.length := by omega
    obtain ⟨x, hxx⟩ : ∃ x, s.yards[y] = x := ⟨_, rfl⟩
    have hrow : (s.yards.map Yd.enc)[((y : Int)).toNat]? = some (x.enc) := by simp [hy', hxx]
    obtain ⟨hk1, hk2⟩ := kindsY_get hv hy'
    rw [hxx] at hk1
    refine ⟨by omega, _, hrow, ?_⟩
    refine ⟨[2, 3, 5, 6, 7, 15, 16, 17, 22], 4, [], fun σ => ∃ k : Nat, k ≤ 2 ∧
      σ = ⟨[(2, .loc 0 0), (3, .loc 1 0), (5, .mloc 2), (6, .int .i64 y), (7, .loc 3 0), (15, .list 3 (s.yards.map Yd.enc)), (16, .int .i64 (s.yards.map Yd.enc).length), (17, .int .i64 y), (22, .int .i64 k)],
        [.flat false (s.encS l f), .flat false (D3 d), mapS s d l f (prefK m y k), .flat false x.enc], .non⟩,
      fun σ => (1000 - slotI 22 σ).toNat, rfl, ⟨rfl, rfl⟩, ⟨0, Nat.zero_le _, by rw [prefK_zero]; rfl⟩, ?_⟩
    rintro σ ⟨k, hk, rfl⟩
    refine ⟨fun h2 => ?_, fun h2 => ?_⟩
    · have h2 : (k : Int) < 2 := of_decide_eq_true h2
      refine ⟨[2, 3, 5, 6, 7, 8, 15, 16, 17, 22, 28, 29], 4, [], fun σ => ∃ t : Nat, t ≤ m ∧
        σ = ⟨[(2, .loc 0 0), (3, .loc 1 0), (5, .mloc 2), (6, .int .i64 y), (7, .loc 3 0), (8, .int .i64 k), (15, .list 3 (s.yards.map Yd.enc)), (16, .int .i64 (s.yards.map Yd.enc).length), (17, .int .i64 y), (22, .int .i64 k), (28, .int .i64 (s.drifts.map Sp.enc).length), (29, .int .i64 t)],
          [.flat false (s.encS l f), .flat false (D3 d), mapS s d l f (prefT m y k t), .flat false x.enc], .non⟩,
        fun σ => (1000 - slotI 29 σ).toNat, rfl, ⟨rfl, rfl⟩, ⟨0, Nat.zero_le _, by rw [prefT_zero]; rfl⟩, ?_⟩
      rintro σ ⟨t, ht, rfl⟩
      refine ⟨fun h3 => ?_, fun h3 => ?_⟩
      · have h3 := of_decide_eq_true h3
        rw [hml] at h3
        have ht' : t < m := by omega
        have hs1 : s.kindsY y / 2 ^ k < 2 ^ 62 := div_lt (by omega)
        have hset : s.inSet d y k t l < 2 ^ 62 := setOf_lt62 _ (by omega)
        have done : ∀ {τ : St}, τ = ⟨[(2, .loc 0 0), (3, .loc 1 0), (5, .mloc 2), (6, .int .i64 y), (7, .loc 3 0), (8, .int .i64 k), (15, .list 3 (s.yards.map Yd.enc)), (16, .int .i64 (s.yards.map Yd.enc).length), (17, .int .i64 y), (22, .int .i64 k), (28, .int .i64 (s.drifts.map Sp.enc).length), (29, .int .i64 ((t : Int) + 1))],
          [.flat false (s.encS l f), .flat false (D3 d), mapS s d l f (prefT m y k (t + 1)), .flat false x.enc], .non⟩ → (∃ t : Nat, t ≤ m ∧ τ = ⟨[(2, .loc 0 0), (3, .loc 1 0), (5, .mloc 2), (6, .int .i64 y), (7, .loc 3 0), (8, .int .i64 k), (15, .list 3 (s.yards.map Yd.enc)), (16, .int .i64 (s.yards.map Yd.enc).length), (17, .int .i64 y), (22, .int .i64 k), (28, .int .i64 (s.drifts.map Sp.enc).length), (29, .int .i64 t)],
          [.flat false (s.encS l f), .flat false (D3 d), mapS s d l f (prefT m y k t), .flat false x.enc], .non⟩) := fun h => ⟨t + 1, by omega, h⟩
        have less : (1000 - ((t : Int) + 1)).toNat < (1000 - (t : Int)).toNat := by omega
        refine ⟨Int.natCast_nonneg _, ((s.kindsY y / 2 ^ k : Nat) : Int), by rw [hk1]; exact shr_nat _ _ (by omega), ?_⟩
        refine ⟨_, bits_and (b := 1) hs1 (by decide), ?_⟩
        refine ⟨fun h4 => ?_, fun h4 => ?_⟩
        · have h4 : (((s.kindsY y / 2 ^ k &&& 1 : Nat) : Int) == 0) = true := h4
          rw [bit0] at h4
          have hs : s.sees d l f (y, k, t) = false := by
            have : (s.kindsY y).testBit k = false := by simpa using h4
            unfold Sh.sees; rw [this]; rfl
          refine ⟨(t : Int) + 1, wrap64 (by omega) (by omega), ?_⟩
          exact ⟨⟨rfl, rfl⟩, done (by rw [← mapS_skip hs]; rfl), less⟩
        have h4 : (((s.kindsY y / 2 ^ k &&& 1 : Nat) : Int) == 0) = false := h4
        rw [bit0] at h4
        have hbit : (s.kindsY y).testBit k = true := by simpa using h4
        refine ⟨_, rfl, _, den112 s hv d hd y k t hy' l f hl hx, ?_⟩
        refine ⟨fun h5 => ?_, fun h5 => ?_⟩
        · have h5 : (((s.inSet d y k t l : Nat) : Int) != 0) = true := h5
          have h5' : (s.inSet d y k t l == 0) = false := by simp at h5 ⊢; omega
          refine ⟨_, bits_andNot hset (by omega), ?_⟩
          refine ⟨fun h6 => ?_, fun h6 => ?_⟩
          · have h6 : (((diff (s.inSet d y k t l) f : Nat) : Int) == 0) = true := h6
            have h6' : (diff (s.inSet d y k t l) f == 0) = true := by simp at h6 ⊢; omega
            have hs : s.sees d l f (y, k, t) = true := by unfold Sh.sees; rw [hbit, h5', h6']; rfl
            refine ⟨none, mapS_fresh, _, _, ⟨(mapS_keys hs).symm, (mapS_vals hs).symm⟩, ?_⟩
            refine ⟨(t : Int) + 1, wrap64 (by omega) (by omega), ?_⟩
            exact ⟨⟨rfl, rfl⟩, done rfl, less⟩
          · have h6 : (((diff (s.inSet d y k t l) f : Nat) : Int) == 0) = false := h6
            have h6' : (diff (s.inSet d y k t l) f == 0) = false := by simp at h6 ⊢; omega
            have hs : s.sees d l f (y, k, t) = false := by unfold Sh.sees; rw [hbit, h5', h6']; rfl
            refine ⟨(t : Int) + 1, wrap64 (by omega) (by omega), ?_⟩
            exact ⟨⟨rfl, rfl⟩, done (by rw [← mapS_skip hs]; rfl), less⟩
        · have h5 : (((s.inSet d y k t l : Nat) : Int) != 0) = false := h5
          have h5' : (s.inSet d y k t l == 0) = true := by simp at h5 ⊢; omega
          have hs : s.sees d l f (y, k, t) = false := by unfold Sh.sees; rw [hbit, h5']; rfl
          refine ⟨(t : Int) + 1, wrap64 (by omega) (by omega), ?_⟩
          exact ⟨⟨rfl, rfl⟩, done (by rw [← mapS_skip hs]; rfl), less⟩
      · have h3 := of_decide_eq_false h3
        rw [hml] at h3
        have htm : t = m := by omega
        have eT : prefT m y k t = prefK m y (k + 1) := by rw [htm, prefT_end]
        refine ⟨(k : Int) + 1, wrap64 (by omega) (by omega), ?_⟩
        exact ⟨⟨rfl, rfl⟩, ⟨k + 1, by omega, by rw [← eT]; rfl⟩, by show (1000 - ((k : Int) + 1)).toNat < (1000 - (k : Int)).toNat; omega⟩
    · have h2 : ¬ (k : Int) < 2 := of_decide_eq_false h2
      have hk2 : k = 2 := by omega
      have eK : prefK m y k = prefY m (y + 1) := by rw [hk2, prefK_end]
      refine ⟨(y : Int) + 1, wrap64 (by omega) (by omega), ?_⟩
      exact ⟨⟨rfl, rfl⟩, ⟨y + 1, by omega, by rw [← eK]; rfl⟩, by show (1000 - ((y : Int) + 1)).toNat < (1000 - (y : Int)).toNat; omega⟩
  · have h1 := of_decide_eq_false h1
    rw [yd_len] at h1
    obtain rfl : y = s.yards.length := by omega
    exact ⟨_, rfl, .inl ⟨2, rfl, rfl⟩⟩

end Go.Proofs.Water

namespace Go.Proofs.Water
open Go.V Go.Proofs Go.Proofs.Top

/-- The numbers of a span. -/
def rng (b : Sp) : List Int := (List.range (b.hi + 1 - b.lo).toNat).map fun i : Nat => b.lo + i
theorem rng_get {b : Sp} {i : Nat} (h : i < (rng b).length) : (rng b)[i] = b.lo + i := by simp [rng]
theorem rng_len (b : Sp) : (rng b).length = (b.hi + 1 - b.lo).toNat := by simp [rng]
theorem rng_mem {b : Sp} {v : Int} : v ∈ rng b ↔ b.lo ≤ v ∧ v ≤ b.hi := by
  unfold rng
  simp only [List.mem_map, List.mem_range]
  constructor
  · rintro ⟨i, h, rfl⟩; omega
  · intro h; exact ⟨(v - b.lo).toNat, by omega, by omega⟩
def drs : List Sp → List (List Int)
  | [] => [[]]
  | b :: r => (rng b).flatMap fun n => (drs r).map fun c => n :: c
theorem drs_mem : ∀ {l : List Sp} {c : List Int}, c ∈ drs l → c.length = l.length ∧ ∀ i b, l[i]? = some b → b.lo ≤ dAt c i ∧ dAt c i ≤ b.hi
  | [], c, h => by
    rw [drs, List.mem_singleton] at h
    subst h
    exact ⟨rfl, fun i b hb => by simp at hb⟩
  | b :: r, c, h => by
    simp only [drs, List.mem_flatMap, List.mem_map] at h
    obtain ⟨n, hn, c', hc, rfl⟩ := h
    obtain ⟨h1, h2⟩ := drs_mem hc
    refine ⟨by simp [h1], fun i b' hb => ?_⟩
    cases i with
    | zero => simp at hb; subst hb; exact rng_mem.1 hn
    | succ i => exact h2 i b' (by simpa using hb)
theorem drs_in : ∀ {l : List Sp} {c : List Int}, c.length = l.length → (∀ i b, l[i]? = some b → b.lo ≤ dAt c i ∧ dAt c i ≤ b.hi) → c ∈ drs l
  | [], c, h, _ => by
    rw [drs, List.mem_singleton]
    exact List.eq_nil_of_length_eq_zero h
  | b :: r, [], h, _ => by simp at h
  | b :: r, n :: c, h, hb => by
    simp only [drs, List.mem_flatMap, List.mem_map]
    exact ⟨n, rng_mem.2 (hb 0 b rfl), c, drs_in (by simpa using h) (fun i b' hb' => hb (i + 1) b' (by simpa using hb')), rfl⟩

theorem dAt_set {e : List Int} {i j : Nat} {v : Int} (h : i < e.length) : dAt (e.set i v) j = if j = i then v else dAt e j := by
  unfold dAt
  by_cases hj : j = i
  · subst hj; simp [h]
  · rw [List.getElem?_set_ne (Ne.symm hj), if_neg hj]

theorem D3_set (e : List Int) (i : Nat) (v : Int) (h : i < e.length) (hi : i < 3) : splice (D3 e) i [.int .i64 v] = D3 (e.set i v) := by
  unfold D3
  simp only [dAt_set h]
  match i, hi with
  | 0, _ => rfl
  | 1, _ => rfl
  | 2, _ => rfl

def fillC (s : Sh) (l : List Smp) (f : Int) : D := .clo (.func 111) [] [.ro (s.encS l f), .loc 0 0, .loc 1 0, .loc 2 0]
def fillB (s : Sh) (l : List Smp) (f : Int) (lb : Nat) (e : List Int) : List Box := [.flat false [.yld lb], .flat false (D3 e), .flat false [fillC s l f]]
def yD (c : List Int) : List D := [.agg (D3 c)]

theorem take_set_succ {e : List Int} {i : Nat} {v : Int} (h : i < e.length) : (e.set i v).take (i + 1) = e.take i ++ [v] := by
  rw [List.take_succ_eq_append_getElem (by simpa using h), List.take_set_of_le (Nat.le_refl i)]
  simp

theorem denY111 (s : Sh) (hv : s.Valid) (l : List Smp) (f : Int) (lb : Nat) : ∀ (r tide : Nat) (e : List Int) (rest : List (List D)), tide + r = s.drifts.length → e.length = s.drifts.length →
    DenY Tryz.prog 111 [.int .i64 tide, .ro (s.encS l f), .loc 0 0, .loc 1 0, .loc 2 0] (fillB s l f lb e) (.rem lb (((drs (s.drifts.drop tide)).map fun c => yD (e.take tide ++ c)) ++ rest))
      fun d bs y => ∃ e' : List Int, e'.length = s.drifts.length ∧ e'.take tide = e.take tide ∧ bs = fillB s l f lb e' ∧ ((d = .tt ∧ y = .rem lb rest) ∨ (d = .ff ∧ y = .stopped))
  | 0, tide, e, rest, ht, he => by
    have h0 : s.drifts.drop tide = [] := List.drop_of_length_le (by omega)
    have h1 : e.take tide = e := List.take_of_length_le (by omega)
    have h2 : ((drs (s.drifts.drop tide)).map fun c => yD (e.take tide ++ c)) ++ rest = yD e :: rest := by
      rw [h0, h1, drs, List.map_cons, List.map_nil, List.append_nil]; rfl
    rw [h2, h1]
    refine denY_of (sh := shW) (ish := ishW) Tryz.tok Tryz.mixed Tryz.func111 Tryz.call111 rfl rfl ?_
    refine ⟨fun h3 => ?_, fun h3 => ?_⟩
    · refine ⟨rfl, ⟨_, rfl, rfl⟩, ?_, ?_⟩
      · exact ⟨_, rfl, e, he, h1, rfl, .inl ⟨rfl, rfl⟩⟩
      · exact ⟨_, rfl, e, he, h1, rfl, .inr ⟨rfl, rfl⟩⟩
    · have h3 : ((tide : Int) == ((s.drifts.map Sp.enc).length : Int)) = false := h3
      rw [sp_len] at h3
      simp at h3
      omega
  | r + 1, tide, e, rest, ht, he => by
    have htl : tide < s.drifts.length := by omega
    obtain ⟨b, hb⟩ : ∃ b, s.drifts[tide] = b := ⟨_, rfl⟩
    have hdl := hv.dl
    have hbb := hv.d b (by rw [← hb]; exact List.getElem_mem htl)
    have hrow : (s.drifts.map Sp.enc)[((tide : Int)).toNat]? = some (b.enc) := by simp [htl, hb]
    have hdrop : s.drifts.drop tide = b :: s.drifts.drop (tide + 1) := by rw [← hb]; exact List.drop_eq_getElem_cons htl
    obtain ⟨p, hp⟩ : ∃ p, e.take tide = p := ⟨_, rfl⟩
    have hL : ((drs (s.drifts.drop tide)).map fun c => yD (e.take tide ++ c)) = ((rng b).drop 0).flatMap fun n => (drs (s.drifts.drop (tide + 1))).map fun c => yD (p ++ n :: c) := by
      rw [hdrop, drs, List.map_flatMap, hp, List.drop_zero]
      congr 1
      funext n
      rw [List.map_map]
      rfl
    rw [hL, hp]
    refine denY_of (sh := shW) (ish := ishW) Tryz.tok Tryz.mixed Tryz.func111 Tryz.call111 rfl rfl ?_
    refine ⟨fun h3 => ?_, fun h3 => ?_⟩
    · have h3 : ((tide : Int) == ((s.drifts.map Sp.enc).length : Int)) = true := h3
      rw [sp_len] at h3
      simp at h3
      omega
    refine ⟨by omega, _, hrow, ?_⟩
    refine ⟨[0, 1, 2, 3, 4, 7], 3, [], fun σ => ∃ (j : Nat) (e' : List Int), j ≤ (rng b).length ∧ e'.length = s.drifts.length ∧ e'.take tide = p ∧
      σ = ⟨[(0, .int .i64 tide), (1, .ro (s.encS l f)), (2, .loc 0 0), (3, .loc 1 0), (4, .loc 2 0), (7, .int .i64 (b.lo + j))], fillB s l f lb e',
        .rem lb ((((rng b).drop j).flatMap fun n => (drs (s.drifts.drop (tide + 1))).map fun c => yD (p ++ n :: c)) ++ rest)⟩,
      fun σ => (1000 - slotI 7 σ).toNat, rfl, ⟨rfl, rfl⟩, ⟨0, e, Nat.zero_le _, he, hp, ?_⟩, ?_⟩
    · show _ = (⟨[(0, _), (1, _), (2, _), (3, _), (4, _), (7, .int .i64 (b.lo + 0))], _, _⟩ : St)
      rw [Int.add_zero]
      rfl
    rintro σ ⟨j, e', hj, he', hp', rfl⟩
    refine ⟨by omega, _, hrow, ?_⟩
    refine ⟨fun h4 => ?_, fun h4 => ?_⟩
    · have h4 : b.lo + (j : Int) ≤ b.hi := of_decide_eq_true h4
      have hjl : j < (rng b).length := by rw [rng_len]; omega
      have hgd : (rng b).drop j = (b.lo + (j : Int)) :: (rng b).drop (j + 1) := by rw [List.drop_eq_getElem_cons hjl, rng_get]
      refine ⟨⟨by omega, by omega⟩, _, rfl, ?_⟩
      refine ⟨?_, D3 (e'.set tide (b.lo + j)), ?_, ?_⟩
      · show 0 + ((tide : Int)).toNat * 1 + 1 ≤ 3
        omega
      · have e0 : 0 + ((tide : Int)).toNat * 1 = tide := by omega
        show splice (D3 e') (0 + ((tide : Int)).toNat * 1) _ = _
        rw [e0]
        exact D3_set e' tide _ (by omega) (by omega)
      refine ⟨(tide : Int) + 1, wrap64 (by omega) (by omega), ?_⟩
      have ih := denY111 s hv l f lb r (tide + 1) (e'.set tide (b.lo + j)) ((((rng b).drop (j + 1)).flatMap fun n => (drs (s.drifts.drop (tide + 1))).map fun c => yD (p ++ n :: c)) ++ rest) (by omega) (by simpa using he')
      have hts : (e'.set tide (b.lo + j)).take (tide + 1) = p ++ [b.lo + (j : Int)] := by rw [take_set_succ (by omega), hp']
      have hy : ((drs (s.drifts.drop (tide + 1))).map fun c => yD ((e'.set tide (b.lo + j)).take (tide + 1) ++ c)) ++ ((((rng b).drop (j + 1)).flatMap fun n => (drs (s.drifts.drop (tide + 1))).map fun c => yD (p ++ n :: c)) ++ rest) =
          (((rng b).drop j).flatMap fun n => (drs (s.drifts.drop (tide + 1))).map fun c => yD (p ++ n :: c)) ++ rest := by
        rw [hts, hgd, List.flatMap_cons, List.append_assoc]
        simp
      rw [hy] at ih
      refine ⟨[0, 1, 2], [.int .i64 ((tide + 1 : Nat) : Int), .ro (s.encS l f), .loc 0 0, .loc 1 0, .loc 2 0], fillB s l f lb (e'.set tide (b.lo + j)), _, rfl, rfl, rfl, rfl, ih, ⟨_, _, _, _, by simpa using he', rfl, rfl, .inl ⟨rfl, rfl⟩⟩, ?_⟩
      rintro _ _ _ ⟨e2, h5, h6, rfl, ⟨rfl, rfl⟩ | ⟨rfl, rfl⟩⟩
      · refine ⟨b.lo + ((j + 1 : Nat) : Int), ?_, ?_⟩
        · have : b.lo + (j : Int) + 1 = b.lo + ((j + 1 : Nat) : Int) := by omega
          exact (congrArg IntKind.i64.wrap this).trans (wrap64 (by omega) (by omega))
        have h7 : e2.take tide = p := by
          have h8 := congrArg (List.take tide) h6
          rw [hts, List.take_take, Nat.min_eq_left (by omega)] at h8
          rw [h8, List.take_left' (by rw [← hp', List.length_take]; omega)]
        exact ⟨⟨rfl, rfl⟩, ⟨j + 1, e2, hjl, h5, h7, rfl⟩, by show (1000 - (b.lo + ((j + 1 : Nat) : Int))).toNat < (1000 - (b.lo + (j : Int))).toNat; omega⟩
      · have h7 : e2.take tide = p := by
          have h8 := congrArg (List.take tide) h6
          rw [hts, List.take_take, Nat.min_eq_left (by omega)] at h8
          rw [h8, List.take_left' (by rw [← hp', List.length_take]; omega)]
        exact ⟨_, rfl, e2, h5, h7, rfl, .inr ⟨rfl, rfl⟩⟩
    · have h4 : ¬ b.lo + (j : Int) ≤ b.hi := of_decide_eq_false h4
      have hjl : (rng b).drop j = [] := List.drop_of_length_le (by rw [rng_len] at hj ⊢; omega)
      refine ⟨_, rfl, e', he', hp', rfl, .inl ⟨rfl, ?_⟩⟩
      show Yst.rem lb ((((rng b).drop j).flatMap fun n => (drs (s.drifts.drop (tide + 1))).map fun c => yD (p ++ n :: c)) ++ rest) = _
      rw [hjl]; rfl

end Go.Proofs.Water

namespace Go.Proofs.Water
open Go.V Go.Proofs Go.Proofs.Top

theorem mkI {f : FuncId} {fn : Func} (hf : Tryz.prog.funcs[f]? = some fn) (he : Enters Tryz.prog f) (hb : bodyOK fn = true) {args : List D} {xs : List (List D)} (hn : Nat.ble (args.length + 1) fn.ntmps = true) (h : BodyIter Tryz.tt (CD Tryz.prog shW) (ItD Tryz.prog ishW) fn args xs) : IT f args xs :=
  iter_of Tryz.tok Tryz.mixed hf he hb hn h

theorem D3_zero (n : Nat) : D3 (List.replicate n 0) = [.int .i64 0, .int .i64 0, .int .i64 0] := by
  have h : ∀ i, dAt (List.replicate n 0) i = 0 := fun i => by
    unfold dAt
    rw [List.getElem?_replicate]
    split
    · rename_i v hv
      split at hv
      · cases hv; rfl
      · cases hv
    · rfl
  unfold D3
  rw [h, h, h]

theorem it110 (s : Sh) (hv : s.Valid) (l : List Smp) (f : Int) : IT 110 [.ro (s.encS l f)] ((drs s.drifts).map yD) := by
  refine mkI Tryz.func110 Tryz.call110 rfl rfl ?_
  intro lb
  have ih := denY111 s hv l f lb s.drifts.length 0 (List.replicate s.drifts.length 0) [] (by omega) (by simp)
  unfold fillB at ih
  rw [D3_zero, List.append_nil] at ih
  refine ⟨[0, 1, 2], [.int .i64 0, .ro (s.encS l f), .loc 0 0, .loc 1 0, .loc 2 0], [.flat false [.yld lb], .flat false [.int .i64 0, .int .i64 0, .int .i64 0], .flat false [fillC s l f]], _, rfl, rfl, rfl, rfl, ih, ⟨_, _, _, List.replicate s.drifts.length 0, by simp, rfl, rfl, .inl ⟨rfl, rfl⟩⟩, ?_⟩
  rintro _ _ _ ⟨e2, h5, h6, rfl, ⟨rfl, rfl⟩ | ⟨rfl, rfl⟩⟩
  · exact rfl
  · exact rfl

theorem den96 (s : Sh) (l : List Smp) (f : Int) : DN 96 [.agg (s.encS l f)] (.clo (.func 110) [] [.ro (s.encS l f)]) := by
  refine mk Tryz.func96 Tryz.call96 rfl rfl ?_
  rfl

theorem den81 (s : Sh) (l : List Smp) (f ys : Int) : DN 81 [.agg (s.encS l f), .int .i64 ys] (.clo (.func 95) [] [.ro (s.encS l f), .ro [.int .i64 ys]]) := by
  refine mk Tryz.func81 Tryz.call81 rfl rfl ?_
  rfl

end Go.Proofs.Water

namespace Go.Proofs.Water
open Go.V Go.Proofs Go.Proofs.Top

/-- The spills that are seen. -/
def Sh.es (s : Sh) (d : List Int) (l : List Smp) (f : Nat) : List Q := (prefY s.drifts.length s.yards.length).filter (s.sees d l f)
def Sh.covs (s : Sh) (d : List Int) (l : List Smp) (ys i : Nat) (q : Q) : Bool := ys.testBit q.1 && (s.inSet d q.1 q.2.1 q.2.2 l).testBit i
/-- The samples that no spill of the yards explains. -/
def Sh.unc (s : Sh) (d : List Int) (l : List Smp) (f ys : Nat) : Nat := setOf 60 fun i => f.testBit i && !((s.es d l f).any (s.covs d l ys i))
def Sh.agr (s : Sh) (d : List Int) (l : List Smp) (f ys : Nat) : Bool := s.unc d l f ys == 0
def Sh.gD (s : Sh) (d : List Int) (l : List Smp) (f : Nat) : List D := [.gmap ((s.es d l f).map keyQ) ((s.es d l f).map (s.setV d l))]
def Sh.truths (s : Sh) (l : List Smp) (f ys : Nat) (L : List (List Int)) : List (List D) := (L.filter fun d => s.agr d l f ys).map fun d => s.gD d l f

/-- How many entries have not come. -/
def mitN (i : Nat) (σ : St) : Nat := match σ.boxes[i]? with | some (.miter _ _ ks _ seen) => ks.length - seen.length | _ => 0

def atQ {α : Type} (es : List α) (p : α → Bool) (q : Nat) : Bool := match es[q]? with | some e => p e | none => false
theorem atQ_some {α : Type} {es : List α} {p : α → Bool} {q : Nat} {e : α} (h : es[q]? = some e) : atQ es p q = p e := by unfold atQ; rw [h]
theorem seen_any {α : Type} {es : List α} {p : α → Bool} {seen : List Nat} (hall : ∀ q : Nat, q < es.length → q ∈ seen) : seen.any (atQ es p) = es.any p := by
  apply Bool.eq_iff_iff.2
  simp only [List.any_eq_true]
  constructor
  · rintro ⟨q, _, h⟩
    cases he : es[q]? with
    | none => unfold atQ at h; rw [he] at h; cases h
    | some e => rw [atQ_some he] at h; exact ⟨e, List.mem_of_getElem? he, h⟩
  · rintro ⟨e, he, hp⟩
    obtain ⟨q, hq⟩ := List.mem_iff_getElem?.1 he
    exact ⟨q, hall q (List.getElem?_eq_some_iff.1 hq).1, by rw [atQ_some hq]; exact hp⟩

theorem nodup_len {seen : List Nat} {n : Nat} (h : seen.Nodup) (hl : ∀ q ∈ seen, q < n) : seen.length ≤ n := by
  have := (List.nodup_range (n := n))
  have h2 : seen ⊆ List.range n := fun q hq => List.mem_range.2 (hl q hq)
  have := h.length_le_of_subset h2
  simpa using this

theorem drf_of {s : Sh} (hv : s.Valid) {d : List Int} (h : d ∈ drs s.drifts) : Drf s d := by
  obtain ⟨h1, h2⟩ := drs_mem h
  refine ⟨h1, fun v hm => ?_⟩
  obtain ⟨i, hi⟩ := List.mem_iff_getElem?.1 hm
  have hil : i < s.drifts.length := by rw [← h1]; exact (List.getElem?_eq_some_iff.1 hi).1
  have hb := hv.d s.drifts[i] (List.getElem_mem hil)
  have h3 := h2 i s.drifts[i] (List.getElem?_eq_getElem hil)
  have h4 : dAt d i = v := by unfold dAt; rw [hi]
  omega

theorem unc_eq {s : Sh} {d : List Int} {l : List Smp} {f ys v : Nat} {seen : List Nat} (hv : v < 2 ^ 60) (hall : ∀ q : Nat, q < (s.es d l f).length → q ∈ seen)
    (h : ∀ i, v.testBit i = (f.testBit i && !(seen.any (atQ (s.es d l f) (s.covs d l ys i))))) : v = s.unc d l f ys := by
  rw [← setOf_self hv]
  refine setOf_congr fun i _ => ?_
  rw [h i]
  congr 2
  exact seen_any (p := s.covs d l ys i) hall

set_option maxRecDepth 4000 in
theorem it95 (s : Sh) (hv : s.Valid) (l : List Smp) (f ys : Nat) (hf : f < 2 ^ 60) (hys : ys < 2 ^ 60) (hl : l.length ≤ 8) (hx : ∀ x ∈ l, s.okX x) :
    IT 95 [.ro (s.encS l f), .ro [.int .i64 ys]] (s.truths l f ys (drs s.drifts)) := by
  refine mkI Tryz.func95 Tryz.call95 rfl rfl ?_
  intro lb
  refine ⟨_, rfl, _, den96 s l f, ?_⟩
  refine ⟨rfl, _, rfl, _, it110 s hv l f, 1, [], fun i bs y => i ≤ (drs s.drifts).length ∧ bs = [.flat false [.yld lb]] ∧ y = .rem lb (s.truths l f ys ((drs s.drifts).drop i)), rfl, rfl, rfl, ⟨Nat.zero_le _, rfl, rfl⟩, ?_, ?_, ?_⟩
  · rintro i x bs y hxi ⟨hi, rfl, hy⟩
    obtain ⟨d, hd, rfl⟩ : ∃ d, (drs s.drifts)[i]? = some d ∧ x = yD d := by
      rw [List.getElem?_map] at hxi
      cases h : (drs s.drifts)[i]? with
      | none => rw [h] at hxi; cases hxi
      | some c => rw [h] at hxi; exact ⟨c, rfl, (Option.some.inj hxi).symm⟩
    have hil : i < (drs s.drifts).length := (List.getElem?_eq_some_iff.1 hd).1
    have hdf := drf_of hv (List.mem_of_getElem? hd)
    have hdrop : (drs s.drifts).drop i = d :: (drs s.drifts).drop (i + 1) := by
      rw [List.drop_eq_getElem_cons hil]
      rw [List.getElem?_eq_getElem hil] at hd
      rw [Option.some.inj hd]
    have hyt : s.agr d l f ys = true → y = .rem lb (s.gD d l f :: s.truths l f ys ((drs s.drifts).drop (i + 1))) := fun h => by
      rw [hy, hdrop]; unfold Sh.truths; rw [List.filter_cons, if_pos h]; rfl
    have hyf : s.agr d l f ys = false → y = .rem lb (s.truths l f ys ((drs s.drifts).drop (i + 1))) := fun h => by
      rw [hy, hdrop]; unfold Sh.truths; rw [List.filter_cons, if_neg (by rw [h]; decide)]
    clear hy
    refine Or.inl ⟨by kernel_rfl, ?_⟩
    refine ⟨_, rfl, _, den97 s hv d hdf l f hf hl hx, iff' (mapS_new _ _ _ _ _) ?_⟩
    obtain ⟨es, hes⟩ : ∃ es, s.es d l f = es := ⟨_, rfl⟩
    have hmap : mapS s d l f (prefY s.drifts.length s.yards.length) = .map false (es.map keyQ) (es.map (s.setV d l)) := by rw [← hes]; rfl
    rw [hmap]
    have hgd : s.gD d l f = [.gmap (es.map keyQ) (es.map (s.setV d l))] := by rw [← hes]; rfl
    rw [hgd] at hyt
    refine ⟨[1, 2, 3, 5, 6, 18], 4, [], fun σ => ∃ (seen : List Nat) (v : Nat), seen.Nodup ∧ (∀ q ∈ seen, q < es.length) ∧ v < 2 ^ 60 ∧ (∀ i, v.testBit i = (f.testBit i && !(seen.any (atQ es (s.covs d l ys i))))) ∧
      σ = ⟨[(1, .ro (s.encS l f)), (2, .ro [.int .i64 ys]), (3, .loc 0 0), (5, .mloc 2), (6, .int .i64 v), (18, .sit 3)],
        [.flat false [.yld lb], .flat false (D3 d), .map false (es.map keyQ) (es.map (s.setV d l)), .miter false 2 (es.map keyQ) (es.map (s.setV d l)) seen], y⟩,
      mitN 3, rfl, ⟨rfl, rfl⟩, ⟨[], f, List.nodup_nil, fun q hq => (by cases hq), hf, fun i => by simp, rfl⟩, ?_⟩
    rintro σ ⟨seen, v, hnd, hlt, hv60, hvb, rfl⟩
    have hlen : ((es.map keyQ)).length = es.length := List.length_map ..
    refine ⟨fun q kd vd hkd hvd hq => ?_, fun hall => ?_⟩
    · obtain ⟨e, he, hke⟩ : ∃ e, es[q]? = some e ∧ keyQ e = kd := by
        rw [List.getElem?_map] at hkd
        cases h : es[q]? with
        | none => rw [h] at hkd; cases hkd
        | some e => rw [h] at hkd; exact ⟨e, rfl, Option.some.inj hkd⟩
      have hve : s.setV d l e = vd := by
        rw [List.getElem?_map, he] at hvd
        exact Option.some.inj hvd
      subst hke hve
      have hem : e.1 < s.yards.length := by
        have h1 : e ∈ s.es d l f := by rw [hes]; exact List.mem_of_getElem? he
        exact (prefY_mem (k := e.2.1) (t := e.2.2).1 (List.mem_filter.1 h1).1).1
      have hyl := hv.yl
      have hset : s.inSet d e.1 e.2.1 e.2.2 l < 2 ^ 62 := setOf_lt62 _ (by omega)
      have hql : q < es.length := (List.getElem?_eq_some_iff.1 he).1
      have hnd' : (q :: seen).Nodup := List.nodup_cons.2 ⟨hq, hnd⟩
      have hlt' : ∀ r ∈ q :: seen, r < es.length := fun r hr => by
        rcases List.mem_cons.1 hr with rfl | hr
        · exact hql
        · exact hlt r hr
      have hless : (es.map keyQ).length - (seen.length + 1) < (es.map keyQ).length - seen.length := by
        have := nodup_len hnd' hlt'
        simp only [List.length_cons] at this
        omega
      refine ⟨_, _, hkd, hvd, ?_⟩
      refine ⟨Int.natCast_nonneg _, _, shr_nat ys e.1 (by omega), ?_⟩
      refine ⟨_, bits_and (b := 1) (div_lt (by omega)) (by decide), ?_⟩
      refine ⟨fun h3 => ?_, fun h3 => ?_⟩
      · have h3 : (((ys / 2 ^ e.1 &&& 1 : Nat) : Int) == 1) = true := h3
        rw [bit1] at h3
        refine ⟨_, bits_andNot (by omega) hset, ?_⟩
        refine ⟨⟨rfl, rfl⟩, ⟨q :: seen, _, hnd', hlt', diff_lt hv60, fun i => ?_, rfl⟩, hless⟩
        rw [diff_bit, hvb, List.any_cons, atQ_some he]
        unfold Sh.covs
        rw [h3]
        simp only [Bool.true_and]
        cases f.testBit i <;> cases (s.inSet d e.1 e.2.1 e.2.2 l).testBit i <;> simp
      · have h3 : (((ys / 2 ^ e.1 &&& 1 : Nat) : Int) == 1) = false := h3
        rw [bit1] at h3
        refine ⟨⟨rfl, rfl⟩, ⟨q :: seen, v, hnd', hlt', hv60, fun i => ?_, rfl⟩, hless⟩
        rw [hvb, List.any_cons, atQ_some he]
        unfold Sh.covs
        rw [h3]
        simp
    · have hvu : v = s.unc d l f ys := unc_eq hv60 (seen := seen) (by rw [hes]; intro q hq; exact hall q (by rw [hlen]; exact hq)) (by rw [hes]; exact hvb)
      refine ⟨fun h3 => ?_, fun h3 => ?_⟩
      · have h3 : ((v : Int) != 0) = true := h3
        have hag : s.agr d l f ys = false := by unfold Sh.agr; rw [← hvu]; simp at h3 ⊢; omega
        exact ⟨rfl, hil, rfl, hyf hag⟩
      · have h3 : ((v : Int) != 0) = false := h3
        have hag : s.agr d l f ys = true := by unfold Sh.agr; rw [← hvu]; simp at h3 ⊢; omega
        have hyy := hyt hag
        subst hyy
        refine ⟨rfl, rfl, iff' (by rw [plainAll_map keyQ (fun _ => rfl), plainAll_map (s.setV d l) (fun _ => rfl)]; rfl) ⟨?_, ?_⟩⟩
        · exact ⟨rfl, hil, rfl, rfl⟩
        · exact rfl
  · intro x hx
    obtain ⟨c, _, rfl⟩ := List.mem_map.1 hx
    exact ⟨rfl, rfl⟩
  · rintro bs y ⟨_, rfl, rfl⟩
    rw [show ((drs s.drifts).map yD).length = (drs s.drifts).length from List.length_map .., List.drop_length]
    rfl

end Go.Proofs.Water

namespace Go.Proofs.Water
open Go.V Go.Proofs Go.Proofs.Top

theorem gD_ok (s : Sh) (d : List Int) (l : List Smp) (f : Nat) : (s.gD d l f).length = 1 ∧ yOK (s.gD d l f) = true := by
  refine ⟨rfl, ?_⟩
  unfold Sh.gD yOK
  simp only [plainAll_map keyQ (fun _ => rfl)]
  exact plainAll_map (s.setV d l) (fun _ => rfl) _

/-- Some truth agrees. -/
def Sh.explF (s : Sh) (l : List Smp) (f ys : Nat) : Bool := (drs s.drifts).any fun d => s.agr d l f ys

theorem truths_get {s : Sh} {l : List Smp} {f ys : Nat} {L : List (List Int)} {i : Nat} {x : List D} (h : (s.truths l f ys L)[i]? = some x) : ∃ d, (L.filter fun d => s.agr d l f ys)[i]? = some d ∧ x = s.gD d l f := by
  unfold Sh.truths at h
  rw [List.getElem?_map] at h
  cases h1 : (L.filter fun d => s.agr d l f ys)[i]? with
  | none => rw [h1] at h; cases h
  | some d => rw [h1] at h; exact ⟨d, rfl, (Option.some.inj h).symm⟩

theorem den57 (s : Sh) (hv : s.Valid) (l : List Smp) (f ys : Nat) (hf : f < 2 ^ 60) (hys : ys < 2 ^ 60) (hl : l.length ≤ 8) (hx : ∀ x ∈ l, s.okX x) :
    DN 57 [.agg (s.encS l f), .int .i64 ys] (.bool (s.explF l f ys)) := by
  refine mk Tryz.func57 Tryz.call57 rfl rfl ?_
  refine ⟨_, rfl, _, den81 s l f ys, ?_⟩
  refine ⟨rfl, _, rfl, _, it95 s hv l f ys hf hys hl hx, 2, [], fun i bs y => i = 0 ∧ bs = [.flat false (s.encS l f), .flat false [.ff]] ∧ y = .non, rfl, rfl, rfl, ⟨rfl, rfl, rfl⟩, ?_, ?_, ?_⟩
  · rintro i x bs y hxi ⟨rfl, rfl, rfl⟩
    obtain ⟨d, hd, rfl⟩ := truths_get hxi
    have hm := List.mem_filter.1 (List.mem_of_getElem? hd)
    have he : s.explF l f ys = true := List.any_eq_true.2 ⟨d, hm.1, hm.2⟩
    show some (D.bool true) = some (D.bool _)
    rw [he]
  · intro x hx
    obtain ⟨d, _, rfl⟩ := List.mem_map.1 hx
    exact gD_ok s d l f
  · rintro bs y ⟨h0, rfl, rfl⟩
    have he : s.explF l f ys = false := by
      unfold Sh.truths at h0
      rw [List.length_map] at h0
      have h1 : (drs s.drifts).filter (fun d => s.agr d l f ys) = [] := List.eq_nil_of_length_eq_zero h0
      unfold Sh.explF
      rw [Bool.eq_false_iff]
      intro h
      obtain ⟨d, h2, h3⟩ := List.any_eq_true.1 h
      have : d ∈ (drs s.drifts).filter (fun d => s.agr d l f ys) := List.mem_filter.2 ⟨h2, h3⟩
      rw [h1] at this
      cases this
    show some (D.bool false) = some (D.bool _)
    rw [he]

/-- The spill puts its yard among those that can be in one of some samples. -/
def Sh.canE (s : Sh) (d : List Int) (l : List Smp) (sm y : Nat) (q : Q) : Bool := q.1 == y && !((s.inSet d q.1 q.2.1 q.2.2 l &&& sm) == 0)
def Sh.canP (s : Sh) (l : List Smp) (f sm : Nat) (L : List (List Int)) : Nat := setOf 5 fun y => L.any fun d => (s.es d l f).any (s.canE d l sm y)
/-- The yards that can be in one of some samples. -/
def Sh.canF (s : Sh) (l : List Smp) (f sm : Nat) : Nat := s.canP l f sm ((drs s.drifts).filter fun d => s.agr d l f s.all)

theorem canP_bit (s : Sh) (l : List Smp) (f sm : Nat) (L : List (List Int)) (y : Nat) : (s.canP l f sm L).testBit y = (decide (y < 5) && L.any fun d => (s.es d l f).any (s.canE d l sm y)) := setOf_bit _ _ _
theorem canP_lt (s : Sh) (l : List Smp) (f sm : Nat) (L : List (List Int)) : s.canP l f sm L < 32 := setOf_lt _ 5

theorem es_yard {s : Sh} {d : List Int} {l : List Smp} {f : Nat} {q : Q} (h : q ∈ s.es d l f) : q.1 < s.yards.length ∧ q.2.1 < 2 ∧ q.2.2 < s.drifts.length :=
  prefY_mem.1 (List.mem_filter.1 h).1

theorem canP_snoc {s : Sh} (_ : s.Valid) {l : List Smp} {f sm : Nat} {L : List (List Int)} {d : List Int} {v : Nat} {seen : List Nat} (hv5 : v < 2 ^ 5) (hall : ∀ q : Nat, q < (s.es d l f).length → q ∈ seen)
    (h : ∀ i, v.testBit i = ((s.canP l f sm L).testBit i || seen.any (atQ (s.es d l f) (s.canE d l sm i)))) : v = s.canP l f sm (L ++ [d]) := by
  rw [← setOf_self hv5]
  refine setOf_congr fun i hi => ?_
  rw [h i, canP_bit, seen_any hall, List.any_append]
  simp [hi]

set_option maxRecDepth 4000 in
theorem den61 (s : Sh) (hv : s.Valid) (l : List Smp) (f sm : Nat) (hf : f < 2 ^ 60) (hsm : sm < 2 ^ 60) (hl : l.length ≤ 8) (hx : ∀ x ∈ l, s.okX x) :
    DN 61 [.agg (s.encS l f), .int .i64 sm] (.int .i64 ((s.canF l f sm : Nat) : Int)) := by
  refine mk Tryz.func61 Tryz.call61 rfl rfl ?_
  have hyl := hv.yl
  have hall := all_lt hv
  refine Or.inl ⟨by kernel_rfl, ?_⟩
  refine ⟨_, rfl, _, den58 s l f hyl.2, ?_⟩
  refine ⟨_, rfl, _, den81 s l f s.all, ?_⟩
  obtain ⟨L, hL⟩ : ∃ L, ((drs s.drifts).filter fun d => s.agr d l f s.all) = L := ⟨_, rfl⟩
  have hcan : s.canF l f sm = s.canP l f sm L := by rw [← hL]; rfl
  refine ⟨rfl, _, rfl, _, it95 s hv l f s.all hf (by omega) hl hx, 3, [], fun i bs y => i ≤ L.length ∧ bs = [.flat false (s.encS l f), .flat false [.int .i64 sm], .flat false [.int .i64 ((s.canP l f sm (L.take i) : Nat) : Int)]] ∧ y = .non, rfl, rfl, rfl, ⟨Nat.zero_le _, rfl, rfl⟩, ?_, ?_, ?_⟩
  · rintro i x bs y hxi ⟨hi, rfl, rfl⟩
    obtain ⟨d, hd, rfl⟩ := truths_get hxi
    rw [hL] at hd
    have hil : i < L.length := (List.getElem?_eq_some_iff.1 hd).1
    have htake : L.take (i + 1) = L.take i ++ [d] := by rw [List.take_add_one, hd]; rfl
    obtain ⟨es, hes⟩ : ∃ es, s.es d l f = es := ⟨_, rfl⟩
    have hgd : s.gD d l f = [.gmap (es.map keyQ) (es.map (s.setV d l))] := by rw [← hes]; rfl
    have hcl := canP_lt s l f sm (L.take i)
    rw [hgd]
    refine ⟨[2, 3, 4, 14], 5, [], fun σ => ∃ (seen : List Nat) (v : Nat), seen.Nodup ∧ (∀ q ∈ seen, q < es.length) ∧ v < 2 ^ 5 ∧ (∀ j, v.testBit j = ((s.canP l f sm (L.take i)).testBit j || seen.any (atQ es (s.canE d l sm j)))) ∧
      σ = ⟨[(2, .loc 0 0), (3, .loc 1 0), (4, .loc 2 0), (14, .sit 4)],
        [.flat false (s.encS l f), .flat false [.int .i64 sm], .flat false [.int .i64 (v : Int)], .map false (es.map keyQ) (es.map (s.setV d l)), .miter false 3 (es.map keyQ) (es.map (s.setV d l)) seen], .non⟩,
      mitN 4, rfl, ⟨rfl, rfl⟩, ⟨[], _, List.nodup_nil, fun q hq => (by cases hq), hcl, fun j => by simp, rfl⟩, ?_⟩
    rintro σ ⟨seen, v, hnd, hlt, hv5, hvb, rfl⟩
    have hlen : ((es.map keyQ)).length = es.length := List.length_map ..
    refine ⟨fun q kd vd hkd hvd hq => ?_, fun hall => ?_⟩
    · obtain ⟨e, he, hke⟩ : ∃ e, es[q]? = some e ∧ keyQ e = kd := by
        rw [List.getElem?_map] at hkd
        cases h : es[q]? with
        | none => rw [h] at hkd; cases hkd
        | some e => rw [h] at hkd; exact ⟨e, rfl, Option.some.inj hkd⟩
      have hve : s.setV d l e = vd := by
        rw [List.getElem?_map, he] at hvd
        exact Option.some.inj hvd
      subst hke hve
      have hem : e.1 < s.yards.length := (es_yard (by rw [hes]; exact List.mem_of_getElem? he)).1
      have hset : s.inSet d e.1 e.2.1 e.2.2 l < 2 ^ 62 := setOf_lt62 _ (by omega)
      have hql : q < es.length := (List.getElem?_eq_some_iff.1 he).1
      have hnd' : (q :: seen).Nodup := List.nodup_cons.2 ⟨hq, hnd⟩
      have hlt' : ∀ r ∈ q :: seen, r < es.length := fun r hr => by
        rcases List.mem_cons.1 hr with rfl | hr
        · exact hql
        · exact hlt r hr
      have hless : (es.map keyQ).length - (seen.length + 1) < (es.map keyQ).length - seen.length := by
        have := nodup_len hnd' hlt'
        simp only [List.length_cons] at this
        omega
      have hp5 : 2 ^ e.1 < 2 ^ 5 := Nat.pow_lt_pow_right (by decide) (by omega)
      refine ⟨_, _, hkd, hvd, ?_⟩
      refine ⟨_, bits_and hset (by omega), ?_⟩
      refine ⟨fun h3 => ?_, fun h3 => ?_⟩
      · have h3 : (((s.inSet d e.1 e.2.1 e.2.2 l &&& sm : Nat) : Int) != 0) = true := h3
        have h4 : ((s.inSet d e.1 e.2.1 e.2.2 l &&& sm) == 0) = false := by simp at h3 ⊢; omega
        refine Or.inl ⟨by kernel_rfl, ?_⟩
        refine ⟨Int.natCast_nonneg _, _, shl1 e.1 (by omega), ?_⟩
        refine ⟨_, bits_or (by omega) (by omega), ?_⟩
        refine ⟨⟨rfl, rfl⟩, ⟨q :: seen, _, hnd', hlt', or_lt hv5 hp5, fun j => ?_, rfl⟩, hless⟩
        rw [Nat.testBit_or, hvb, pow_bit, List.any_cons, atQ_some he]
        unfold Sh.canE
        rw [h4]
        have hj : decide (j = e.1) = (e.1 == j) := by apply Bool.eq_iff_iff.2; simp; exact eq_comm
        rw [hj]
        cases (s.canP l f sm (L.take i)).testBit j <;> cases e.1 == j <;> simp
      · have h3 : (((s.inSet d e.1 e.2.1 e.2.2 l &&& sm : Nat) : Int) != 0) = false := h3
        have h4 : ((s.inSet d e.1 e.2.1 e.2.2 l &&& sm) == 0) = true := by simp at h3 ⊢; omega
        refine ⟨⟨rfl, rfl⟩, ⟨q :: seen, v, hnd', hlt', hv5, fun j => ?_, rfl⟩, hless⟩
        rw [hvb, List.any_cons, atQ_some he]
        unfold Sh.canE
        rw [h4]
        simp
    · have hvu : v = s.canP l f sm (L.take (i + 1)) := by
        rw [htake]
        exact canP_snoc hv (seen := seen) hv5 (by rw [hes]; intro q hq; exact hall q (by rw [hlen]; exact hq)) (by rw [hes]; exact hvb)
      refine ⟨rfl, hil, ?_, rfl⟩
      rw [← hvu]
      rfl
  · intro x hx
    obtain ⟨d, _, rfl⟩ := List.mem_map.1 hx
    exact gD_ok s d l f
  · rintro bs y ⟨_, rfl, rfl⟩
    have e : (s.truths l f s.all (drs s.drifts)).length = L.length := by unfold Sh.truths; rw [hL, List.length_map]
    rw [e, List.take_length, hcan]
    rfl

end Go.Proofs.Water

namespace Go.Proofs.Water
open Go.V Go.Proofs Go.Proofs.Top

theorem mkW {f : FuncId} {fn : Func} (hf : Tryz.prog.funcs[f]? = some fn) (he : Enters Tryz.prog f) (hb : bodyOK fn = true) {args : List D} {d : D} (hn : Nat.ble args.length fn.ntmps = true) (h : BodyW Tryz.tt (CD Tryz.prog shW) (ItD Tryz.prog ishW) fn args d) : DN f args d :=
  den_ofW Tryz.tok Tryz.mixed hf he hb hn h

theorem fnd_lt {s : Sh} {l : List Smp} (h : s.Ok l) : fnd l < 2 ^ 8 := Nat.lt_of_lt_of_le (setOf_lt _ _) (Nat.pow_le_pow_right (by decide) h.ll)

/-- Some truth agrees with all samples, the yards of a set alone having spills. -/
def Sh.expl (s : Sh) (l : List Smp) (ys : Nat) : Bool := s.explF l (fnd l) ys
/-- The yards that can be in one of some samples. -/
def Sh.can (s : Sh) (l : List Smp) (sm : Nat) : Nat := s.canF l (fnd l) sm

theorem den57o (s : Sh) (l : List Smp) (h : s.Ok l) (ys : Nat) (hys : ys < 2 ^ 60) : DN 57 [.agg (s.encS l ((fnd l : Nat) : Int)), .int .i64 ys] (.bool (s.expl l ys)) :=
  den57 s h.v l (fnd l) ys (Nat.lt_trans (fnd_lt h) (by decide)) hys h.ll h.x
theorem den61o (s : Sh) (l : List Smp) (h : s.Ok l) (sm : Nat) (hsm : sm < 2 ^ 60) : DN 61 [.agg (s.encS l ((fnd l : Nat) : Int)), .int .i64 sm] (.int .i64 ((s.can l sm : Nat) : Int)) :=
  den61 s h.v l (fnd l) sm (Nat.lt_trans (fnd_lt h) (by decide)) hsm h.ll h.x

theorem opened_form (s : Sh) (l : List Smp) : ∃ (a b c : Nat) (yl dl ll : List (List D)) (sp f : Int), s.opened l = [.list a yl, .list b dl, .int .i64 sp, .list c ll, .int .i64 f] := by
  unfold Sh.opened
  split
  · exact ⟨0, 0, 0, [], [], [], 0, 0, rfl⟩
  · split
    · exact ⟨0, 0, 0, [], [], [], 0, 0, rfl⟩
    · exact ⟨_, _, _, _, _, _, _, _, rfl⟩

/-- Whether some truth agrees, and the error. -/
def Sh.agreeR (s : Sh) (l : List Smp) : Bool × Int := match s.openE l != 0 with
  | true => (false, s.openE l)
  | false => (s.expl l s.all, 0)
def agreeD (p : Bool × Int) : D := .tup [.bool p.1, .int .i64 p.2]

theorem den14 (s : Sh) (l : List Smp) : DN 14 [.agg s.enc, .list 4 (l.map Smp.enc)] (agreeD (s.agreeR l)) := by
  refine mk Tryz.func14 Tryz.call14 rfl rfl ?_
  have fin : ∀ {p q : Bool × Int}, p = q → some (agreeD p) = some (agreeD q) := fun h => by rw [h]
  have h57 := den56 s l
  by_cases h0 : s.openE l = 0
  · have hok := ok_of h0
    rw [opened_ok h0, h0] at h57
    have hall := all_lt hok.v
    refine ⟨_, rfl, _, h57, ?_⟩
    refine ⟨(fun h => nomatch h), fun _ => ?_⟩
    refine Or.inl ⟨by kernel_rfl, ?_⟩
    refine ⟨_, rfl, _, den58 s l _ hok.v.yl.2, ?_⟩
    refine ⟨_, rfl, _, den57o s l hok s.all (by omega), ?_⟩
    exact fin (p := (s.expl l s.all, 0)) (q := s.agreeR l) (by unfold Sh.agreeR; rw [h0]; rfl)
  · have hne : (s.openE l != 0) = true := by simpa using h0
    obtain ⟨a, b, c, yl, dl, ll, sp, f, ho⟩ := opened_form s l
    rw [ho] at h57
    refine ⟨_, rfl, _, h57, ?_⟩
    refine ⟨fun _ => ?_, fun h => absurd (by simpa using h) h0⟩
    exact fin (p := (false, s.openE l)) (q := s.agreeR l) (by unfold Sh.agreeR; rw [hne])

/-- What a list of yards and an error are told as. -/
def listD (p : List Int × Int) : D := .tup [.list 1 (p.1.map encI), .int .i64 p.2]
theorem early (e : Int) : ∃ d0, some (D.tup [.list 0 [], .int .i64 e]) = some d0 ∧ Wk d0 (listD ([], e)) := ⟨_, rfl, .tcons (.nil _ _) (.refl _)⟩
theorem late (l : List Int) (e : Int) {p : List Int × Int} (h : p = (l, e)) : ∃ d0, some (D.tup [.list 1 (l.map encI), .int .i64 e]) = some d0 ∧ Wk d0 (listD p) := ⟨_, rfl, by rw [h]; exact .refl _⟩

def Sh.agreedE (s : Sh) (l : List Smp) (e : Int) : Int := match e == 0 with
  | true => match s.expl l s.all with | true => 0 | false => 9
  | false => e

def Sh.canR (s : Sh) (l : List Smp) (n : Int) : List Int × Int := match s.agreedE l (s.foundE l n) != 0 with
  | true => ([], s.agreedE l (s.foundE l n))
  | false => (yardsZ (s.can l (2 ^ n.toNat)), 0)

theorem givenE_zero {l : List Smp} {n : Int} (h : givenE l n = 0) : 0 ≤ n ∧ n < l.length ∧ foundAt l n.toNat = true := by
  unfold givenE at h
  cases h1 : [n].any (outB 0 ((l.length : Int) - 1)) with
  | true => rw [h1] at h; cases h
  | false =>
    rw [h1] at h
    cases h2 : foundAt l n.toNat with
    | true => simp [outB] at h1; exact ⟨by omega, by omega, rfl⟩
    | false => rw [h2] at h; cases h

theorem foundE_ok {s : Sh} {l : List Smp} {n : Int} (h : s.openE l = 0) : s.foundE l n = givenE l n := by unfold Sh.foundE; rw [h]; rfl

theorem den18 (s : Sh) (l : List Smp) (n : Int) : DN 18 [.agg s.enc, .list 4 (l.map Smp.enc), .int .i64 n] (listD (s.canR l n)) := by
  refine mkW Tryz.func18 Tryz.call18 rfl rfl ?_
  have h57 := den56 s l
  have bad : ∀ e, s.agreedE l (s.foundE l n) = e → e ≠ 0 → s.canR l n = ([], e) := fun e h h0 => by
    have : (s.agreedE l (s.foundE l n) != 0) = true := by rw [h]; simpa using h0
    unfold Sh.canR; rw [this, h]
  by_cases h0 : s.openE l = 0
  · have hok := ok_of h0
    rw [opened_ok h0, h0] at h57
    have hall := all_lt hok.v
    have hF := foundE_ok (n := n) h0
    have hll := hok.ll
    refine ⟨_, rfl, _, h57, ?_⟩
    refine ⟨fun _ => ?_, (fun h => nomatch h)⟩
    refine ⟨_, rfl, _, den63 s l _ n hok.ll, ?_⟩
    obtain ⟨e, he⟩ : ∃ e, givenE l n = e := ⟨_, rfl⟩
    have hgz : e = 0 → 0 ≤ n ∧ n < l.length ∧ foundAt l n.toNat = true := fun h => givenE_zero (by rw [he]; exact h)
    rw [he]
    rw [hF, he] at bad
    have hcan : s.agreedE l e = 0 → s.canR l n = (yardsZ (s.can l (2 ^ n.toNat)), 0) := fun h => by
      have : (s.agreedE l (s.foundE l n) != 0) = false := by rw [hF, he, h]; rfl
      unfold Sh.canR; rw [this]
    refine Or.inl ⟨by kernel_rfl, ?_⟩
    refine ⟨fun h1 => ?_, fun h1 => ?_⟩
    · have h1 : (e == 0) = true := h1
      have he0 : e = 0 := by simpa using h1
      obtain ⟨hn1, hn2, hn3⟩ := hgz he0
      refine ⟨_, rfl, _, den58 s l _ hok.v.yl.2, ?_⟩
      refine ⟨_, rfl, _, den57o s l hok s.all (by omega), ?_⟩
      refine ⟨fun h2 => ?_, fun h2 => ?_⟩
      · have h2 : s.expl l s.all = false := by simpa using h2
        have hb := bad 9 (by unfold Sh.agreedE; rw [h1, h2]) (by decide)
        refine ⟨fun _ => ?_, fun h => absurd h (by decide)⟩
        rw [hb]; exact early 9
      · have h2 : s.expl l s.all = true := by simpa using h2
        have hc := hcan (by unfold Sh.agreedE; rw [h1, h2])
        have hn4 : n = ((n.toNat : Nat) : Int) := by omega
        have hp : 2 ^ n.toNat < 2 ^ 60 := Nat.pow_lt_pow_right (by decide) (by omega)
        refine ⟨fun h => absurd he0 (by simpa using h), fun _ => ?_⟩
        refine Or.inl ⟨by kernel_rfl, ?_⟩
        refine ⟨hn1, ((2 ^ n.toNat : Nat) : Int), ?_, ?_⟩
        · have := shl1 n.toNat (by omega)
          rw [← hn4] at this
          exact this
        refine ⟨_, rfl, _, den61o s l hok (2 ^ n.toNat) hp, ?_⟩
        refine ⟨_, rfl, _, den60 _ (canP_lt _ _ _ _ _), ?_⟩
        exact late _ _ hc
    · have h1 : (e == 0) = false := h1
      have he0 : ¬ e = 0 := by simpa using h1
      have hb := bad e (by unfold Sh.agreedE; rw [h1]) he0
      refine ⟨fun _ => ?_, fun h => absurd (by simpa using h) he0⟩
      rw [hb]; exact early e
  · have hne : (s.openE l == 0) = false := by simpa using h0
    have hF : s.foundE l n = s.openE l := by unfold Sh.foundE; rw [hne]
    have hb := bad (s.openE l) (by rw [hF]; unfold Sh.agreedE; rw [hne]) h0
    obtain ⟨a, b, c, yl, dl, ll, sp, f, ho⟩ := opened_form s l
    rw [ho] at h57
    rw [hb]
    obtain ⟨e, he⟩ : ∃ e, s.openE l = e := ⟨_, rfl⟩
    rw [he] at h57 h0 ⊢
    refine ⟨_, rfl, _, h57, ?_⟩
    refine ⟨fun h => absurd (by simpa using h) h0, fun _ => ?_⟩
    refine Or.inl ⟨by kernel_rfl, ?_⟩
    refine ⟨fun h => absurd (by simpa using h) h0, fun _ => ?_⟩
    refine ⟨fun _ => ?_, fun h => absurd (by simpa using h) h0⟩
    exact early e

/-- A shore with samples, entered. -/
def Sh.enterE (s : Sh) (l : List Smp) : Int := s.agreedE l (s.openE l)

theorem den59 (s : Sh) (l : List Smp) : DN 59 [.agg s.enc, .list 4 (l.map Smp.enc)] (.tup [.agg (s.opened l), .int .i64 (s.enterE l)]) := by
  refine mk Tryz.func59 Tryz.call59 rfl rfl ?_
  have h57 := den56 s l
  by_cases h0 : s.openE l = 0
  · have hok := ok_of h0
    rw [opened_ok h0]
    rw [opened_ok h0, h0] at h57
    have hall := all_lt hok.v
    refine ⟨_, rfl, _, h57, ?_⟩
    refine Or.inl ⟨by kernel_rfl, ?_⟩
    refine ⟨fun _ => ?_, (fun h => nomatch h)⟩
    refine ⟨_, rfl, _, den58 s l _ hok.v.yl.2, ?_⟩
    refine ⟨_, rfl, _, den57o s l hok s.all (by omega), ?_⟩
    refine ⟨fun h2 => ?_, fun h2 => ?_⟩
    · have h2 : s.expl l s.all = false := by simpa using h2
      have he : s.enterE l = 9 := by unfold Sh.enterE Sh.agreedE; rw [h0, h2]; rfl
      rw [he]; rfl
    · have h2 : s.expl l s.all = true := by simpa using h2
      have he : s.enterE l = 0 := by unfold Sh.enterE Sh.agreedE; rw [h0, h2]; rfl
      rw [he]; rfl
  · have hne : (s.openE l == 0) = false := by simpa using h0
    have he : s.enterE l = s.openE l := by unfold Sh.enterE Sh.agreedE; rw [hne]
    obtain ⟨a, b, c, yl, dl, ll, sp, f, ho⟩ := opened_form s l
    rw [ho] at h57 ⊢
    rw [he]
    obtain ⟨e, hee⟩ : ∃ e, s.openE l = e := ⟨_, rfl⟩
    rw [hee] at h57 h0 ⊢
    refine ⟨_, rfl, _, h57, ?_⟩
    refine Or.inl ⟨by kernel_rfl, ?_⟩
    refine ⟨fun h => absurd (by simpa using h) h0, fun _ => ?_⟩
    exact rfl

end Go.Proofs.Water

namespace Go.Proofs.Water
open Go.V Go.Proofs Go.Proofs.Top

theorem enter_ok {s : Sh} {l : List Smp} (h : s.enterE l = 0) : s.openE l = 0 ∧ s.expl l s.all = true := by
  unfold Sh.enterE Sh.agreedE at h
  cases h1 : s.openE l == 0 with
  | true =>
    rw [h1] at h
    cases h2 : s.expl l s.all with
    | true => exact ⟨by simpa using h1, rfl⟩
    | false => rw [h2] at h; cases h
  | false =>
    rw [h1] at h
    have : ¬ s.openE l = 0 := by simpa using h1
    exact absurd h this

def Sh.sourcesR (s : Sh) (l : List Smp) : List Int × Int := match s.enterE l != 0 with
  | true => ([], s.enterE l)
  | false => (yardsZ (s.can l (fnd l)), 0)

theorem den15 (s : Sh) (l : List Smp) : DN 15 [.agg s.enc, .list 4 (l.map Smp.enc)] (listD (s.sourcesR l)) := by
  refine mkW Tryz.func15 Tryz.call15 rfl rfl ?_
  have h69 := den59 s l
  by_cases h0 : s.enterE l = 0
  · obtain ⟨h1, h2⟩ := enter_ok h0
    have hok := ok_of h1
    rw [opened_ok h1, h0] at h69
    have hfl := fnd_lt hok
    refine ⟨_, rfl, _, h69, ?_⟩
    refine ⟨(fun h => nomatch h), fun _ => ?_⟩
    refine ⟨_, rfl, _, den61o s l hok (fnd l) (by omega), ?_⟩
    refine ⟨_, rfl, _, den60 _ (canP_lt _ _ _ _ _), ?_⟩
    exact late _ _ (by unfold Sh.sourcesR; rw [h0]; rfl)
  · have hne : (s.enterE l != 0) = true := by simpa using h0
    have hr : s.sourcesR l = ([], s.enterE l) := by unfold Sh.sourcesR; rw [hne]
    obtain ⟨a, b, c, yl, dl, ll, sp, f, ho⟩ := opened_form s l
    rw [ho] at h69
    rw [hr]
    obtain ⟨e, hee⟩ : ∃ e, s.enterE l = e := ⟨_, rfl⟩
    rw [hee] at h69 h0 ⊢
    refine ⟨_, rfl, _, h69, ?_⟩
    refine ⟨fun _ => ?_, fun h => absurd (by simpa using h) h0⟩
    exact early e

/-- The yards without which no truth agrees. -/
def Sh.mustL (s : Sh) (l : List Smp) (n : Nat) : List Int := ((List.range n).filter fun i => !(s.expl l (diff s.all (2 ^ i)))).map fun n : Nat => (n : Int)
def Sh.mustR (s : Sh) (l : List Smp) : List Int × Int := match s.enterE l != 0 with
  | true => ([], s.enterE l)
  | false => (s.mustL l s.yards.length, 0)
theorem mustL_len (s : Sh) (l : List Smp) (n : Nat) : (s.mustL l n).length ≤ n := by
  unfold Sh.mustL
  rw [List.length_map]
  have := List.length_filter_le (fun i => !(s.expl l (diff s.all (2 ^ i)))) (List.range n)
  simpa using this
theorem mustL_add {s : Sh} {l : List Smp} {n : Nat} (h : s.expl l (diff s.all (2 ^ n)) = false) : s.mustL l (n + 1) = s.mustL l n ++ [(n : Int)] := by
  unfold Sh.mustL
  rw [List.range_succ, List.filter_append]
  simp [h]
theorem mustL_skip {s : Sh} {l : List Smp} {n : Nat} (h : s.expl l (diff s.all (2 ^ n)) = true) : s.mustL l (n + 1) = s.mustL l n := by
  unfold Sh.mustL
  rw [List.range_succ, List.filter_append]
  simp [h]

theorem den42 (s : Sh) (l : List Smp) : DN 42 [.agg s.enc, .list 4 (l.map Smp.enc)] (listD (s.mustR l)) := by
  refine mkW Tryz.func42 Tryz.call42 rfl rfl ?_
  have h69 := den59 s l
  by_cases h0 : s.enterE l = 0
  · obtain ⟨h1, h2⟩ := enter_ok h0
    have hok := ok_of h1
    rw [opened_ok h1, h0] at h69
    have hall := all_lt hok.v
    have hyl := hok.v.yl
    have hr : s.mustR l = (s.mustL l s.yards.length, 0) := by unfold Sh.mustR; rw [h0]; rfl
    refine ⟨_, rfl, _, h69, ?_⟩
    refine ⟨(fun h => nomatch h), fun _ => ?_⟩
    refine ⟨[4, 6, 20, 21], 2, [(.slot 4, 1)], fun σ => ∃ (n g : Nat), n ≤ s.yards.length ∧
      σ = ⟨[(4, .sl 2 g 0 ((s.mustL l n).map encI).length), (6, .loc 1 0), (20, .int .i64 (s.yards.map Yd.enc).length), (21, .int .i64 n)], [.flat false s.enc, .flat false (s.encS l ((fnd l : Nat) : Int)), .rows false g 1 ((s.mustL l n).map encI)], .non⟩,
      fun σ => (1000 - slotI 21 σ).toNat, rfl, ⟨rfl, rfl⟩, ⟨0, 0, Nat.zero_le _, rfl⟩, ?_⟩
    rintro σ ⟨n, g, hn, rfl⟩
    have hml := mustL_len s l n
    refine ⟨fun h3 => ?_, fun h3 => ?_⟩
    · have h3 := of_decide_eq_true h3
      rw [yd_len] at h3
      have hn' : n < s.yards.length := by omega
      have hp : 2 ^ n < 2 ^ 62 := pow_lt62 (by omega)
      refine Or.inl ⟨by kernel_rfl, ?_⟩
      refine ⟨_, rfl, _, den58 s l _ hyl.2, ?_⟩
      refine ⟨Int.natCast_nonneg _, _, shl1 n (by omega), ?_⟩
      refine ⟨_, bits_andNot (by omega) hp, ?_⟩
      have hdl : diff s.all (2 ^ n) < 2 ^ 60 := diff_lt (by omega)
      refine ⟨_, rfl, _, den57o s l hok _ hdl, ?_⟩
      refine ⟨fun h4 => ?_, fun h4 => ?_⟩
      · have h4 : s.expl l (diff s.all (2 ^ n)) = false := by simpa using h4
        have hcat : (s.mustL l n).map encI ++ [[D.int .i64 n]] = (s.mustL l (n + 1)).map encI := by rw [mustL_add h4]; simp [encI]
        refine ⟨trivial, iff' (by rw [beq_self]; rfl) ⟨rfl, ?_, _, hcat, ?_⟩⟩
        · rw [encI_len]; show (_ + 1) * 8 ≤ mostBytes; unfold mostBytes; omega
        refine ⟨_, wrap64 (by omega) (by omega), ?_⟩
        exact ⟨⟨rfl, rfl⟩, ⟨n + 1, g + 1, hn', rfl⟩, by show (1000 - ((n : Int) + 1)).toNat < (1000 - (n : Int)).toNat; omega⟩
      · have h4 : s.expl l (diff s.all (2 ^ n)) = true := by simpa using h4
        refine ⟨_, wrap64 (by omega) (by omega), ?_⟩
        exact ⟨⟨rfl, rfl⟩, ⟨n + 1, g, hn', by rw [mustL_skip h4]; rfl⟩, by show (1000 - ((n : Int) + 1)).toNat < (1000 - (n : Int)).toNat; omega⟩
    · have h3 := of_decide_eq_false h3
      rw [yd_len] at h3
      have hn' : n = s.yards.length := by omega
      rw [hr, ← hn']
      exact ⟨_, reify_tup (mapO_cons (reify_sl rfl rfl) rfl), .refl _⟩
  · have hne : (s.enterE l != 0) = true := by simpa using h0
    have hr : s.mustR l = ([], s.enterE l) := by unfold Sh.mustR; rw [hne]
    obtain ⟨a, b, c, yl, dl, ll, sp, f, ho⟩ := opened_form s l
    rw [ho] at h69
    rw [hr]
    obtain ⟨e, hee⟩ : ∃ e, s.enterE l = e := ⟨_, rfl⟩
    rw [hee] at h69 h0 ⊢
    refine ⟨_, rfl, _, h69, ?_⟩
    refine ⟨fun _ => ?_, fun h => absurd (by simpa using h) h0⟩
    exact early e

/-- The first one of the smallest sets below k of which p holds. -/
def bestN (p : Nat → Bool) (all : Nat) : Nat → Nat
  | 0 => all
  | k + 1 => if (befB (yardsZ k) (yardsZ (bestN p all k)) && p k) = true then k else bestN p all k
theorem bestN_lt (p : Nat → Bool) {all m : Nat} (ha : all < m) : ∀ k, k ≤ m → bestN p all k < m
  | 0, _ => ha
  | k + 1, h => by
    have := bestN_lt p ha k (by omega)
    unfold bestN
    split <;> omega

theorem den62 (s : Sh) (l : List Smp) (h : s.Ok l) :
    DN 62 [.int .i64 s.yards.length, .clo (.func 57) [.agg (s.encS l ((fnd l : Nat) : Int))] []] (.list 1 ((yardsZ (bestN (s.expl l) s.all (2 ^ s.yards.length))).map encI)) := by
  refine mk Tryz.func62 Tryz.call62 rfl rfl ?_
  have hyl := h.v.yl
  have hall := all_lt h.v
  have hp : 2 ^ s.yards.length ≤ 2 ^ 5 := Nat.pow_le_pow_right (by decide) hyl.2
  have hp0 : 0 < 2 ^ s.yards.length := Nat.two_pow_pos _
  have hsh := shl1 s.yards.length (by omega)
  refine ⟨Int.natCast_nonneg _, _, hsh, ?_⟩
  refine ⟨((s.all : Nat) : Int), ?_, ?_⟩
  · have e : ((2 ^ s.yards.length : Nat) : Int) - 1 = ((s.all : Nat) : Int) := by unfold Sh.all; omega
    exact (congrArg IntKind.i64.wrap e).trans (wrap64 (by omega) (by omega))
  refine ⟨_, rfl, _, den60 s.all hall, ?_⟩
  refine ⟨Int.natCast_nonneg _, _, hsh, ?_⟩
  refine ⟨[1, 4, 12, 13], 0, [], fun σ => ∃ k : Nat, k ≤ 2 ^ s.yards.length ∧
    σ = ⟨[(1, .clo (.func 57) [.agg (s.encS l ((fnd l : Nat) : Int))] []), (4, .list 1 ((yardsZ (bestN (s.expl l) s.all k)).map encI)), (12, .int .i64 ((2 ^ s.yards.length : Nat) : Int)), (13, .int .i64 k)], [], .non⟩,
    fun σ => (1000 - slotI 13 σ).toNat, rfl, ⟨rfl, rfl⟩, ⟨0, Nat.zero_le _, rfl⟩, ?_⟩
  rintro σ ⟨k, hk, rfl⟩
  refine ⟨fun h1 => ?_, fun h1 => ?_⟩
  · have h1 : (k : Int) < ((2 ^ s.yards.length : Nat) : Int) := of_decide_eq_true h1
    have hk' : k < 2 ^ s.yards.length := by omega
    obtain ⟨best, hbest⟩ : ∃ best, bestN (s.expl l) s.all k = best := ⟨_, rfl⟩
    have hl1 := yardsL_le k
    have hl2 := yardsL_le best
    rw [← yardsZ_len] at hl1 hl2
    have take : befB (yardsZ k) (yardsZ best) = true → s.expl l k = true → bestN (s.expl l) s.all (k + 1) = k := fun h2 h3 => by
      unfold bestN; rw [hbest, h2, h3]; rfl
    have leave : (befB (yardsZ k) (yardsZ best) && s.expl l k) = false → bestN (s.expl l) s.all (k + 1) = best := fun h2 => by
      unfold bestN; rw [hbest, h2]; rfl
    rw [hbest]
    refine ⟨_, rfl, _, den60 k (by omega), ?_⟩
    have less : (1000 - ((k : Int) + 1)).toNat < (1000 - (k : Int)).toNat := by omega
    refine ⟨fun h2 => ?_, fun h2 => ?_⟩
    · have h2 : (((yardsZ k).map encI).length : Int) < ((yardsZ best).map encI).length := of_decide_eq_true h2
      rw [encI_len, encI_len] at h2
      have hb : befB (yardsZ k) (yardsZ best) = true := by
        unfold befB; rw [if_neg (by omega)]; exact decide_eq_true (by omega)
      refine ⟨_, rfl, _, den57o s l h k (by omega), ?_⟩
      refine ⟨fun h3 => ?_, fun h3 => ?_⟩
      · have h3 : s.expl l k = true := h3
        refine ⟨_, wrap64 (by omega) (by omega), ?_⟩
        exact ⟨⟨rfl, rfl⟩, ⟨k + 1, hk', by rw [take hb h3]; rfl⟩, less⟩
      · have h3 : s.expl l k = false := h3
        refine ⟨_, wrap64 (by omega) (by omega), ?_⟩
        exact ⟨⟨rfl, rfl⟩, ⟨k + 1, hk', by rw [leave (by rw [h3, Bool.and_false])]; rfl⟩, less⟩
    · have h2 : ¬ (((yardsZ k).map encI).length : Int) < ((yardsZ best).map encI).length := of_decide_eq_false h2
      rw [encI_len, encI_len] at h2
      refine ⟨fun h3 => ?_, fun h3 => ?_⟩
      · have h3 : ((((yardsZ k).map encI).length : Int) == (((yardsZ best).map encI).length : Int)) = true := h3
        rw [encI_len, encI_len] at h3
        have h3 : (yardsZ k).length = (yardsZ best).length := by simp at h3; omega
        have hb : befB (yardsZ k) (yardsZ best) = decide (cmpL (yardsZ k) (yardsZ best) < 0) := by unfold befB; rw [if_pos h3]
        refine ⟨_, rfl, _, den83 _ _ (by omega) (by omega), ?_⟩
        refine ⟨fun h4 => ?_, fun h4 => ?_⟩
        · have h4 : befB (yardsZ k) (yardsZ best) = true := by rw [hb]; exact h4
          refine ⟨_, rfl, _, den57o s l h k (by omega), ?_⟩
          refine ⟨fun h5 => ?_, fun h5 => ?_⟩
          · have h5 : s.expl l k = true := h5
            refine ⟨_, wrap64 (by omega) (by omega), ?_⟩
            exact ⟨⟨rfl, rfl⟩, ⟨k + 1, hk', by rw [take h4 h5]; rfl⟩, less⟩
          · have h5 : s.expl l k = false := h5
            refine ⟨_, wrap64 (by omega) (by omega), ?_⟩
            exact ⟨⟨rfl, rfl⟩, ⟨k + 1, hk', by rw [leave (by rw [h5, Bool.and_false])]; rfl⟩, less⟩
        · have h4 : befB (yardsZ k) (yardsZ best) = false := by rw [hb]; exact h4
          refine ⟨_, wrap64 (by omega) (by omega), ?_⟩
          exact ⟨⟨rfl, rfl⟩, ⟨k + 1, hk', by rw [leave (by rw [h4, Bool.false_and])]; rfl⟩, less⟩
      · have h3 : ((((yardsZ k).map encI).length : Int) == (((yardsZ best).map encI).length : Int)) = false := h3
        rw [encI_len, encI_len] at h3
        have h3 : ¬ (yardsZ k).length = (yardsZ best).length := by simp at h3; omega
        have hb : befB (yardsZ k) (yardsZ best) = false := by
          unfold befB; rw [if_neg h3]; exact decide_eq_false (by omega)
        refine ⟨_, wrap64 (by omega) (by omega), ?_⟩
        exact ⟨⟨rfl, rfl⟩, ⟨k + 1, hk', by rw [leave (by rw [hb, Bool.false_and])]; rfl⟩, less⟩
  · have h1 : ¬ (k : Int) < ((2 ^ s.yards.length : Nat) : Int) := of_decide_eq_false h1
    have hk' : k = 2 ^ s.yards.length := by omega
    show some (D.list 1 ((yardsZ (bestN (s.expl l) s.all k)).map encI)) = some _
    rw [hk']

def Sh.fewestR (s : Sh) (l : List Smp) : List Int × Int := match s.enterE l != 0 with
  | true => ([], s.enterE l)
  | false => (yardsZ (bestN (s.expl l) s.all (2 ^ s.yards.length)), 0)

theorem den16 (s : Sh) (l : List Smp) : DN 16 [.agg s.enc, .list 4 (l.map Smp.enc)] (listD (s.fewestR l)) := by
  refine mkW Tryz.func16 Tryz.call16 rfl rfl ?_
  have h69 := den59 s l
  by_cases h0 : s.enterE l = 0
  · obtain ⟨h1, h2⟩ := enter_ok h0
    have hok := ok_of h1
    rw [opened_ok h1, h0] at h69
    have h70 := den62 s l hok
    rw [← yd_len] at h70
    refine ⟨_, rfl, _, h69, ?_⟩
    refine ⟨(fun h => nomatch h), fun _ => ?_⟩
    refine ⟨_, rfl, _, h70, ?_⟩
    exact late _ _ (by unfold Sh.fewestR; rw [h0]; rfl)
  · have hne : (s.enterE l != 0) = true := by simpa using h0
    have hr : s.fewestR l = ([], s.enterE l) := by unfold Sh.fewestR; rw [hne]
    obtain ⟨a, b, c, yl, dl, ll, sp, f, ho⟩ := opened_form s l
    rw [ho] at h69
    rw [hr]
    obtain ⟨e, hee⟩ : ∃ e, s.enterE l = e := ⟨_, rfl⟩
    rw [hee] at h69 h0 ⊢
    refine ⟨_, rfl, _, h69, ?_⟩
    refine ⟨fun _ => ?_, fun h => absurd (by simpa using h) h0⟩
    exact early e

end Go.Proofs.Water

namespace Go.Proofs.Water
open Go.V Go.Proofs Go.Proofs.Top

/-- How many elements a set has. -/
def card (x : Nat) : Nat := (yardsL x).length
def rowF (x : Smp) : List D := [.int .i64 x.place, .int .i64 x.tide, .int .i64 x.kind, .bool false]
def Sh.leftN (s : Sh) (l : List Smp) (f n : Nat) (x : Smp) : Nat := max (card (s.canF (l ++ [x]) f (2 ^ n))) (card (s.canF (l ++ [x]) (f ||| 2 ^ l.length) (2 ^ n)))

theorem rows_norm (l : List Smp) (x : Smp) (hx : x.found = false) : (l.map Smp.enc ++ [rowF x]).map (·.map normB) = (l ++ [x]).map Smp.enc := by
  rw [List.map_append, List.map_map, List.map_append]
  congr 1
  show [[D.int .i64 x.place, .int .i64 x.tide, .int .i64 x.kind, .bool false]] = [x.enc]
  unfold Smp.enc
  rw [hx]

theorem wk_rows (s : Sh) (l : List Smp) (x : Smp) (hx : x.found = false) (f sm : Int) :
    WkL [.agg [.list 3 (s.yards.map Yd.enc), .list 2 (s.drifts.map Sp.enc), .int .i64 s.spread, .list 4 (l.map Smp.enc ++ [rowF x]), .int .i64 f], .int .i64 sm] [.agg (s.encS (l ++ [x]) f), .int .i64 sm] := by
  refine .cons (.agg (.cons (.refl _) (.cons (.refl _) (.cons (.refl _) (.cons ?_ (.cons (.refl _) .nil)))))) (.cons (.refl _) .nil)
  rw [← rows_norm l x hx]
  exact .of (.rows _ _)

theorem card_le (x : Nat) : card x ≤ 5 := yardsL_le x

set_option maxRecDepth 4000 in
theorem den75 (s : Sh) (l : List Smp) (h : s.Ok l) (hl : l.length < 8) (f : Nat) (hf : f < 2 ^ 59) (n : Nat) (hn : n ≤ 8) (x : Smp) (hx : s.okX x) (hxf : x.found = false) :
    DN 75 [.agg (s.encS l f), .int .i64 n, .agg (rowF x)] (.int .i64 (s.leftN l f n x : Nat)) := by
  refine mk Tryz.func75 Tryz.call75 rfl rfl ?_
  have hcat : l.map Smp.enc ++ [rowF x] = l.map Smp.enc ++ [rowF x] := rfl
  have hlen : (l.map Smp.enc ++ [rowF x]).length ≤ 8 := by simp; omega
  have hall : ∀ y ∈ l ++ [x], s.okX y := fun y hy => by
    rcases List.mem_append.1 hy with hy | hy
    · exact h.x y hy
    · rw [List.mem_singleton.1 hy]; exact hx
  have hl9 : (l ++ [x]).length ≤ 8 := by simp; omega
  have hp : 2 ^ n < 2 ^ 60 := Nat.pow_lt_pow_right (by decide) (by omega)
  have hpl : 2 ^ l.length < 2 ^ 60 := Nat.pow_lt_pow_right (by decide) (by omega)
  have hor : f ||| 2 ^ l.length < 2 ^ 60 := or_lt (by omega) hpl
  have h64 := fun f (hf : f < 2 ^ 60) => (den61 s h.v (l ++ [x]) f (2 ^ n) hf hp hl9 hall).wkargs (wk_rows s l x hxf f ((2 ^ n : Nat) : Int))
  have h91 := fun f => den91 (s.canF (l ++ [x]) f (2 ^ n)) (canP_lt _ _ _ _ _)
  have hc := fun f => canP_lt s (l ++ [x]) f (2 ^ n) ((drs s.drifts).filter fun d => s.agr d (l ++ [x]) f s.all)
  have hw : ∀ c : Nat, c < 32 → IntKind.u64.wrap (c : Int) = c := fun c hc => by
    simp only [IntKind.wrap, IntKind.signed, IntKind.bits]
    simp; omega
  refine Or.inr (Or.inl ⟨5, [], by kernel_rfl, ?_⟩)
  have hnew : newOK (.rows false 0 4 (l.map Smp.enc)) = true := by
    show (l.map Smp.enc).all plainAll = true
    rw [List.all_map]
    exact List.all_eq_true.2 fun x _ => rfl
  refine ⟨_, rfl, _, den90 l (by omega), iff' hnew ?_⟩
  refine ⟨trivial, iff' (by rw [beq_self]; rfl) ⟨rfl, ?_, _, hcat, ?_⟩⟩
  · rw [smp_len]; show (_ + 1) * 32 ≤ mostBytes; unfold mostBytes; omega
  refine ⟨trivial, ?_⟩
  refine ⟨trivial, ?_⟩
  refine ⟨trivial, ?_⟩
  refine Or.inl ⟨by kernel_rfl, ?_⟩
  refine ⟨Int.natCast_nonneg _, _, shl1 n (by omega), ?_⟩
  refine ⟨_, mapO_cons (reify_agg (mapO_cons rfl (mapO_cons rfl (mapO_cons rfl (mapO_cons (reify_sl rfl rfl) (mapO_cons rfl rfl)))))) (mapO_cons rfl rfl), _, h64 f (by omega), ?_⟩
  refine ⟨_, hw _ (hc f), ?_⟩
  refine ⟨_, rfl, _, h91 f, ?_⟩
  have hsl : IntKind.i64.wrap (1 * 2 ^ (min (((l.map Smp.enc).length : Int)).toNat IntKind.i64.bits)) = ((2 ^ l.length : Nat) : Int) := by rw [smp_lenI]; exact shl1 l.length (by omega)
  refine Or.inl ⟨by kernel_rfl, ?_⟩
  refine ⟨Int.natCast_nonneg _, _, hsl, ?_⟩
  refine ⟨_, bits_or (by omega) (by omega), ?_⟩
  refine Or.inl ⟨by kernel_rfl, ?_⟩
  refine ⟨Int.natCast_nonneg _, _, shl1 n (by omega), ?_⟩
  refine ⟨_, mapO_cons (reify_agg (mapO_cons rfl (mapO_cons rfl (mapO_cons rfl (mapO_cons (reify_sl rfl rfl) (mapO_cons rfl rfl)))))) (mapO_cons rfl rfl), _, h64 (f ||| 2 ^ l.length) hor, ?_⟩
  refine ⟨_, hw _ (hc (f ||| 2 ^ l.length)), ?_⟩
  refine ⟨_, rfl, _, h91 (f ||| 2 ^ l.length), ?_⟩
  have e : max ((card (s.canF (l ++ [x]) f (2 ^ n)) : Nat) : Int) ((card (s.canF (l ++ [x]) (f ||| 2 ^ l.length) (2 ^ n)) : Nat) : Int) = ((s.leftN l f n x : Nat) : Int) := by
    unfold Sh.leftN
    omega
  show some (D.int .i64 (max ((card (s.canF (l ++ [x]) f (2 ^ n)) : Nat) : Int) ((card (s.canF (l ++ [x]) (f ||| 2 ^ l.length) (2 ^ n)) : Nat) : Int))) = _
  rw [e]

/-- What Ask finds: place, tide, kind, how many. -/
structure Bst where
  at' : Nat
  tide : Nat
  kind : Nat
  n : Int
def Bst.upd (b : Bst) (a t k : Nat) (n : Nat) : Bst := if (n : Int) < b.n then ⟨a, t, k, n⟩ else b

def smp0 (p : Int) (t k : Nat) : Smp := ⟨p, t, k, false⟩
/-- How many yards the sample of a place, tide and kind leaves. -/
def Sh.leftAt (s : Sh) (l : List Smp) (n : Nat) (ps : List Int) (q : Nat × Nat × Nat) : Nat := s.leftN l (fnd l) n (smp0 (dAt ps q.1) q.2.1 q.2.2)
/-- All that can be asked for, in order. -/
def askP (m p : Nat) : List (Nat × Nat × Nat) := (List.range p).flatMap fun a => (List.range m).flatMap fun t => (List.range 2).map fun k => (a, t, k)
def askT (m p t : Nat) : List (Nat × Nat × Nat) := askP m p ++ (List.range t).flatMap fun t => (List.range 2).map fun k => (p, t, k)
def askK (m p t k : Nat) : List (Nat × Nat × Nat) := askT m p t ++ (List.range k).map fun k => (p, t, k)
theorem askT_zero (m p : Nat) : askT m p 0 = askP m p := by simp [askT]
theorem askK_zero (m p t : Nat) : askK m p t 0 = askT m p t := by simp [askK]
theorem askK_end (m p t : Nat) : askK m p t 2 = askT m p (t + 1) := by
  unfold askK askT
  rw [show List.range (t + 1) = List.range t ++ [t] from List.range_succ, List.flatMap_append, List.append_assoc]
  simp
theorem askT_end (m p : Nat) : askT m p m = askP m (p + 1) := by
  unfold askT askP
  rw [show List.range (p + 1) = List.range p ++ [p] from List.range_succ, List.flatMap_append]
  simp
theorem askK_succ (m p t k : Nat) : askK m p t (k + 1) = askK m p t k ++ [(p, t, k)] := by
  unfold askK
  rw [show List.range (k + 1) = List.range k ++ [k] from List.range_succ, List.map_append, List.append_assoc]
  rfl

end Go.Proofs.Water
