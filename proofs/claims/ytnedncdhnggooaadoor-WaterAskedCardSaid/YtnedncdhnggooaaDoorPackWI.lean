/- The law's helpers: the spills of a truth; The law's helpers: what samples show in a truth; The law's function WaterTrue returns true; The law's function WaterTrue returns true: the walk. No condition. -/
import Derived.Test.YtnedncdhnggooaaDoorPackWE
import Derived.Test.YtnedncdhnggooaaDoorPackWG

namespace Go.Proofs.Water
open Go.V Go.Proofs

/-- The spills of a truth, of the first k. -/
def Sh.pickF (s : Sh) (n k : Nat) : List Q := (List.range k).filterMap fun i => if n.testBit i = true then (s.spills s.all)[i]? else none
theorem pickF_len (s : Sh) (n k : Nat) : (s.pickF n k).length ≤ k := by
  unfold Sh.pickF
  refine Nat.le_trans (List.length_filterMap_le _ _) ?_
  simp
theorem pickF_add {s : Sh} {n k : Nat} {q : Q} (h : n.testBit k = true) (hq : (s.spills s.all)[k]? = some q) : s.pickF n (k + 1) = s.pickF n k ++ [q] := by
  unfold Sh.pickF
  rw [List.range_succ, List.filterMap_append]
  simp [h, hq]
theorem pickF_skip {s : Sh} {n k : Nat} (h : n.testBit k = false) : s.pickF n (k + 1) = s.pickF n k := by
  unfold Sh.pickF
  rw [List.range_succ, List.filterMap_append]
  simp [h]
theorem pickF_mem {s : Sh} {n k : Nat} {q : Q} (h : q ∈ s.pickF n k) : q ∈ s.spills s.all := by
  unfold Sh.pickF at h
  obtain ⟨i, _, hi⟩ := List.mem_filterMap.1 h
  split at hi
  · exact List.mem_of_getElem? hi
  · cases hi
/-- The spills of a truth. -/
def Sh.spilled (s : Sh) (n : Nat) : List Q := s.pickF n (s.spills s.all).length

theorem rowQ_len (L : List Q) : ((L.map rowQ).length : Int) = L.length := by simp

set_option maxRecDepth 4000 in
theorem den39 (s : Sh) (hv : s.Valid) (p : Past) (hp : p.Ok) : DN 39 [.agg s.enc, .agg p.enc] (.list 3 ((s.spilled p.spills).map rowQ)) := by
  refine mk Tryd.func39 Tryd.call39 rfl rfl ?_
  have hyl := hv.yl
  have hall := all_lt hv
  have h50 := den50 s.yards.length (by omega)
  rw [← yd_len] at h50
  have h2 : 2 ^ s.yards.length ≤ 2 ^ 5 := Nat.pow_le_pow_right (by decide) hyl.2
  have h3 : 0 < 2 ^ s.yards.length := Nat.two_pow_pos _
  have e : ((2 ^ s.yards.length : Nat) : Int) - 1 = ((s.all : Nat) : Int) := by unfold Sh.all; omega
  have hA := spills_len hv s.all
  refine Or.inl ⟨by kernel_rfl, ?_⟩
  refine ⟨_, rfl, _, h50, ?_⟩
  refine ⟨((s.all : Nat) : Int), (congrArg IntKind.i64.wrap e).trans (wrap64 (by omega) (by omega)), ?_⟩
  refine ⟨_, rfl, _, den75 s hv s.all (by omega), ?_⟩
  have hsp : s.spilled p.spills = s.pickF p.spills (s.spills s.all).length := rfl
  obtain ⟨S, hS⟩ : ∃ S, s.spilled p.spills = S := ⟨_, rfl⟩
  rw [hS] at hsp ⊢
  obtain ⟨A, hAA⟩ : ∃ A, s.spills s.all = A := ⟨_, rfl⟩
  rw [hAA] at hA hsp ⊢
  refine ⟨[3, 5, 6, 7], 2, [(.slot 6, 3)], fun σ => ∃ (k g : Nat), k ≤ A.length ∧
    σ = ⟨[(3, .loc 1 0), (5, .list 3 (A.map rowQ)), (6, .sl 2 g 0 ((s.pickF p.spills k).map rowQ).length), (7, .int .i64 k)], [.flat false s.enc, .flat false p.enc, .rows false g 3 ((s.pickF p.spills k).map rowQ)], .non⟩,
    fun σ => (1000 - slotI 7 σ).toNat, rfl, ⟨rfl, rfl⟩, ⟨0, 0, Nat.zero_le _, rfl⟩, ?_⟩
  rintro σ ⟨k, g, hk, rfl⟩
  have hml := pickF_len s p.spills k
  have less : (1000 - ((k : Int) + 1)).toNat < (1000 - (k : Int)).toNat := by omega
  refine ⟨fun h3 => ?_, fun h3 => ?_⟩
  · have h3 := of_decide_eq_true h3
    rw [rowQ_len] at h3
    have hk' : k < A.length := by omega
    obtain ⟨q, hq⟩ : ∃ q, A[k] = q := ⟨_, rfl⟩
    have hqk : A[k]? = some q := by rw [List.getElem?_eq_getElem hk', hq]
    have hrow : (A.map rowQ)[((k : Int)).toNat]? = some (rowQ q) := by simp [hk', hq]
    have hps := hp.s
    refine ⟨(p.spills : Int), wrap64 (by omega) (by omega), ?_⟩
    refine ⟨_, rfl, _, den46 p.spills k (by omega) (by omega), ?_⟩
    refine ⟨fun h4 => ?_, fun h4 => ?_⟩
    · have h4 : p.spills.testBit k = true := h4
      have hadd := pickF_add (s := s) h4 (by rw [hAA]; exact hqk)
      have hcat : (s.pickF p.spills k).map rowQ ++ [rowQ q] = (s.pickF p.spills (k + 1)).map rowQ := by rw [hadd]; simp
      refine ⟨by omega, _, hrow, ?_⟩
      refine ⟨trivial, iff' (by rw [beq_self]; rfl) ⟨rfl, ?_, _, hcat, ?_⟩⟩
      · rw [List.length_map]; show (_ + 1) * 24 ≤ mostBytes; unfold mostBytes; omega
      refine ⟨(k : Int) + 1, wrap64 (by omega) (by omega), ?_⟩
      exact ⟨⟨rfl, rfl⟩, ⟨k + 1, g + 1, hk', rfl⟩, less⟩
    · have h4 : p.spills.testBit k = false := h4
      refine ⟨(k : Int) + 1, wrap64 (by omega) (by omega), ?_⟩
      exact ⟨⟨rfl, rfl⟩, ⟨k + 1, g, hk', by rw [pickF_skip h4]; rfl⟩, less⟩
  · have h3 := of_decide_eq_false h3
    rw [rowQ_len] at h3
    have hk' : k = A.length := by omega
    rw [hsp, ← hk']
    show reify [.flat false s.enc, .flat false p.enc, .rows false g 3 ((s.pickF p.spills k).map rowQ)] 8 (.sl 2 g 0 ((s.pickF p.spills k).map rowQ).length) = _
    exact reify_sl rfl rfl

end Go.Proofs.Water

namespace Go.Proofs.Water
open Go.V Go.Proofs

def tk (p : Past) (i : Nat) : Int := dAt p.taken i
/-- What the k-th sample shows. -/
def Sh.toldX (s : Sh) (d : List Int) (L : List Q) (p : Past) (k : Nat) : Smp :=
  ⟨(tk p (3 * k)).tmod 101, (tk p (3 * k + 1)).tmod s.drifts.length, (tk p (3 * k + 2)).tmod 2,
   L.any fun q => s.inS d q.1 q.2.1 q.2.2 ⟨(tk p (3 * k)).tmod 101, (tk p (3 * k + 1)).tmod s.drifts.length, (tk p (3 * k + 2)).tmod 2, false⟩⟩
def Sh.toldF (s : Sh) (p : Past) (k : Nat) : List Smp := (List.range k).map fun i => s.toldX (driftedF s p.drifts s.drifts.length) (s.spilled p.spills) p i
theorem toldF_len (s : Sh) (p : Past) (k : Nat) : (s.toldF p k).length = k := by unfold Sh.toldF; simp
theorem toldF_add (s : Sh) (p : Past) (k : Nat) : s.toldF p (k + 1) = s.toldF p k ++ [s.toldX (driftedF s p.drifts s.drifts.length) (s.spilled p.spills) p k] := by
  unfold Sh.toldF; rw [List.range_succ, List.map_append]; rfl
def Sh.told (s : Sh) (p : Past) : List Smp := s.toldF p (min 8 (p.taken.length / 3))

theorem enc16_get {l : List Int} {i : Nat} (h : i < l.length) {z : Int} (hz : z = (i : Int)) : (l.map enc16)[z.toNat]? = some (enc16 (dAt l i)) := by
  subst hz; simp [h, dAt]
theorem enc16_len (l : List Int) : ((l.map enc16).length : Int) = l.length := by simp
theorem tk_in {p : Past} (hp : p.Ok) (i : Nat) : 0 ≤ tk p i ∧ tk p i < 65536 := by
  unfold tk dAt
  cases hv : p.taken[i]? with
  | none => exact ⟨by decide, by decide⟩
  | some v => exact hp.t v (List.mem_of_getElem? hv)
theorem drifted_drf {s : Sh} (hv : s.Valid) {p : Past} (hp : p.Ok) : driftedF s p.drifts s.drifts.length ∈ drs s.drifts := by
  refine drs_in (driftedF_len _ _ _) fun i b hb => ?_
  have hi := (List.getElem?_eq_some_iff.1 hb).1
  have hbm := hv.d b (List.mem_of_getElem? hb)
  have ht := turn_in hp.d (by decide) (i : Int)
  have e : dAt (driftedF s p.drifts s.drifts.length) i = amongE b (turnE p.drifts i) := by
    have hbi : s.drifts[i] = b := by rw [List.getElem?_eq_getElem hi] at hb; exact Option.some.inj hb
    unfold dAt driftedF
    simp [hi, hbi]
  rw [e]
  exact among_in hbm.2.1 ht.1
theorem spilled_lt {s : Sh} {n : Nat} {q : Q} (h : q ∈ s.spilled n) : q.1 < s.yards.length := (spills_mem (pickF_mem h)).1

/-- How what is found is told while it is looked for. -/
def FV (v : D) (b : Bool) : Prop := (v = .ff ∧ b = false) ∨ (v = .tt ∧ b = true) ∨ v = .bool b
def row4 (x : Smp) (v : D) : List D := [.int .i64 x.place, .int .i64 x.tide, .int .i64 x.kind, v]
theorem row4_norm {x : Smp} {v : D} (h : FV v x.found) : (row4 x v).map normB = x.enc := by
  rcases h with ⟨rfl, h⟩ | ⟨rfl, h⟩ | rfl
  · show [D.int .i64 x.place, .int .i64 x.tide, .int .i64 x.kind, .bool false] = x.enc
    unfold Smp.enc; rw [h]
  · show [D.int .i64 x.place, .int .i64 x.tide, .int .i64 x.kind, .bool true] = x.enc
    unfold Smp.enc; rw [h]
  · rfl

set_option maxRecDepth 8000 in
set_option maxHeartbeats 4000000 in
theorem den37 (s : Sh) (hv : s.Valid) (p : Past) (hp : p.Ok) : DN 37 [.agg s.enc, .agg p.enc] (.list 4 ((s.told p).map Smp.enc)) := by
  refine mkW Tryd.func37 Tryd.call37 rfl rfl ?_
  have hdl := hv.dl
  have hdd := drifted_drf hv hp
  have hdf := drf_of hv hdd
  have hlt := fun q hq => spilled_lt (s := s) (n := p.spills) (q := q) hq
  have hSl : (s.spilled p.spills).length ≤ 30 := Nat.le_trans (pickF_len _ _ _) (spills_len hv _)
  refine Or.inl ⟨by kernel_rfl, ?_⟩
  refine ⟨_, rfl, _, den38 s hv p hp, ?_⟩
  refine ⟨_, rfl, _, den39 s hv p hp, ?_⟩
  have hT : s.told p = s.toldF p (min 8 (p.taken.length / 3)) := rfl
  obtain ⟨TL, hTL⟩ : ∃ TL, s.told p = TL := ⟨_, rfl⟩
  rw [hTL] at hT ⊢
  have hadd := toldF_add s p
  have hlenT := toldF_len s p
  obtain ⟨TF, hTF⟩ : ∃ TF, s.toldF p = TF := ⟨_, rfl⟩
  rw [hTF] at hT hadd hlenT
  obtain ⟨d, hd⟩ : ∃ d, driftedF s p.drifts s.drifts.length = d := ⟨_, rfl⟩
  obtain ⟨S, hS⟩ : ∃ S, s.spilled p.spills = S := ⟨_, rfl⟩
  rw [hd] at hdf hadd ⊢
  rw [hS] at hlt hSl hadd ⊢
  have htk := tk_in hp
  have hT0 : TF 0 = [] := by rw [← hTF]; rfl
  refine ⟨[2, 3, 5, 6, 7, 8], 2, [(.slot 7, 4)], fun σ => ∃ (k g : Nat) (R : List (List D)), k ≤ 8 ∧ 3 * k ≤ p.taken.length ∧ R.length = k ∧ R.map (·.map normB) = (TF k).map Smp.enc ∧
    σ = ⟨[(2, .loc 0 0), (3, .loc 1 0), (5, .list 1 (d.map encI)), (6, .list 3 (S.map rowQ)), (7, .sl 2 g 0 R.length), (8, .int .i64 ((3 * k : Nat) : Int))], [.flat false s.enc, .flat false p.enc, .rows false g 4 R], .non⟩,
    fun σ => (1000 - slotI 8 σ).toNat, rfl, ⟨rfl, rfl⟩, ⟨0, 0, [], by omega, by omega, rfl, by rw [hT0]; rfl, rfl⟩, ?_⟩
  rintro σ ⟨k, g, R, hk, hk3, hRl, hR, rfl⟩
  have htl : ((p.taken.map enc16).length : Int) = p.taken.length := enc16_len _
  have exit : ¬ (3 * k + 2 < p.taken.length ∧ k < 8) → ∃ d0, reify [.flat false s.enc, .flat false p.enc, .rows false g 4 R] 8 (.sl 2 g 0 R.length) = some d0 ∧ Wk d0 (.list 4 (TL.map Smp.enc)) := fun h => by
    have hkk : k = min 8 (p.taken.length / 3) := by omega
    refine ⟨_, reify_sl rfl rfl, ?_⟩
    rw [hT, ← hkk, ← hR]
    exact .rows _ _
  refine ⟨((3 * k : Nat) : Int) + 2, wrap64 (by omega) (by omega), ?_⟩
  refine ⟨fun h1 => ?_, fun h1 => ?_⟩
  rotate_left
  · have h1 := of_decide_eq_false h1
    rw [htl] at h1
    exact exit (by omega)
  have h1 := of_decide_eq_true h1
  rw [htl] at h1
  refine ⟨fun h2 => ?_, fun h2 => ?_⟩
  rotate_left
  · have h2 : ¬ ((R.length : Nat) : Int) < 8 := of_decide_eq_false h2
    exact exit (by omega)
  have h2 : ((R.length : Nat) : Int) < 8 := of_decide_eq_true h2
  have a0 := htk (3 * k)
  have a1 := htk (3 * k + 1)
  have a2 := htk (3 * k + 2)
  have m0 := tmod_range a0.1 (k := 101) (by decide)
  have m1 := tmod_range a1.1 (k := s.drifts.length) (by omega)
  have m2 := tmod_range a2.1 (k := 2) (by decide)
  obtain ⟨x, hx⟩ : ∃ x : Smp, s.toldX d S p k = x := ⟨_, rfl⟩
  have hxp : (tk p (3 * k)).tmod 101 = x.place := by rw [← hx]; rfl
  have hxt : (tk p (3 * k + 1)).tmod s.drifts.length = x.tide := by rw [← hx]; rfl
  have hxk : (tk p (3 * k + 2)).tmod 2 = x.kind := by rw [← hx]; rfl
  have hxf : x.found = S.any fun q => s.inS d q.1 q.2.1 q.2.2 x := by rw [← hx]; rfl
  rw [hxp] at m0
  rw [hxt] at m1
  rw [hxk] at m2
  have hadd := hadd k
  rw [hx] at hadd
  have hr0 : (p.taken.map enc16)[(((3 * k : Nat) : Int)).toNat]? = some (enc16 (tk p (3 * k))) := enc16_get (by omega) rfl
  have hr1 : (p.taken.map enc16)[(((3 * k : Nat) : Int) + 1).toNat]? = some (enc16 (tk p (3 * k + 1))) := enc16_get (by omega) (by omega)
  have hr2 : (p.taken.map enc16)[(((3 * k : Nat) : Int) + 2).toNat]? = some (enc16 (tk p (3 * k + 2))) := enc16_get (by omega) (by omega)
  refine Or.inl ⟨by kernel_rfl, ?_⟩
  refine ⟨by omega, _, hr0, ?_⟩
  refine ⟨_, wrap64 (by omega) (by omega), ?_⟩
  refine ⟨by decide, _, hxp, ?_⟩
  refine ⟨((3 * k : Nat) : Int) + 1, wrap64 (by omega) (by omega), ?_⟩
  refine ⟨by omega, _, hr1, ?_⟩
  refine ⟨_, wrap64 (by omega) (by omega), ?_⟩
  refine ⟨by rw [sp_len]; omega, x.tide, by rw [sp_len]; exact hxt, ?_⟩
  refine ⟨((3 * k : Nat) : Int) + 2, wrap64 (by omega) (by omega), ?_⟩
  refine ⟨by omega, _, hr2, ?_⟩
  refine ⟨_, wrap64 (by omega) (by omega), ?_⟩
  refine ⟨by decide, _, hxk, ?_⟩
  refine ⟨[2, 3, 5, 6, 7, 8, 9, 10], 4, [], fun σ => ∃ (j : Nat) (v : D) (fo : Bool), j ≤ S.length ∧ FV v fo ∧ fo = ((S.take j).any fun q => s.inS d q.1 q.2.1 q.2.2 x) ∧
    σ = ⟨[(2, .loc 0 0), (3, .loc 1 0), (5, .list 1 (d.map encI)), (6, .list 3 (S.map rowQ)), (7, .sl 2 g 0 R.length), (8, .int .i64 ((3 * k : Nat) : Int)), (9, .loc 3 0), (10, .int .i64 j)], [.flat false s.enc, .flat false p.enc, .rows false g 4 R, .flat false (row4 x v)], .non⟩,
    fun σ => (1000 - slotI 10 σ).toNat, rfl, ⟨rfl, rfl⟩, ⟨0, .ff, false, Nat.zero_le _, .inl ⟨rfl, rfl⟩, rfl, rfl⟩, ?_⟩
  rintro σ ⟨j, v, fo, hj, hfv, hfo, rfl⟩
  have hSlen : ((S.map rowQ).length : Int) = S.length := rowQ_len _
  refine ⟨fun h3 => ?_, fun h3 => ?_⟩
  · have h3 := of_decide_eq_true h3
    rw [hSlen] at h3
    have hj' : j < S.length := by omega
    obtain ⟨q, hq⟩ : ∃ q, S[j] = q := ⟨_, rfl⟩
    have hqy := hlt q (by rw [← hq]; exact List.getElem_mem hj')
    have hrow : (S.map rowQ)[((j : Int)).toNat]? = some (rowQ q) := by simp [hj', hq]
    have hst : S.take (j + 1) = S.take j ++ [q] := by rw [← hq]; exact List.take_succ_eq_append_getElem hj'
    have hnext : (S.take (j + 1)).any (fun q => s.inS d q.1 q.2.1 q.2.2 x) = (fo || s.inS d q.1 q.2.1 q.2.2 x) := by rw [hst, List.any_append, ← hfo]; simp
    have h41 := fun b => den41 s hv d hdf q.1 q.2.1 q.2.2 hqy ⟨x.place, x.tide, x.kind, b⟩ ⟨by show 0 ≤ x.tide ∧ x.tide < s.drifts.length; omega, by show 0 ≤ x.kind ∧ x.kind ≤ 1; omega, by show 0 ≤ x.place ∧ x.place ≤ 100; omega⟩
    have less : (1000 - ((j : Int) + 1)).toNat < (1000 - (j : Int)).toNat := by omega
    rcases hfv with ⟨rfl, rfl⟩ | ⟨rfl, rfl⟩ | rfl
    · refine Or.inl ⟨by kernel_rfl, ?_⟩
      refine ⟨by omega, _, hrow, ?_⟩
      refine ⟨_, rfl, _, h41 false, ?_⟩
      refine ⟨(j : Int) + 1, wrap64 (by omega) (by omega), ?_⟩
      exact ⟨⟨rfl, rfl⟩, ⟨j + 1, _, _, hj', .inr (.inr rfl), by rw [hnext]; rfl, rfl⟩, less⟩
    · refine Or.inl ⟨by kernel_rfl, ?_⟩
      refine ⟨(j : Int) + 1, wrap64 (by omega) (by omega), ?_⟩
      exact ⟨⟨rfl, rfl⟩, ⟨j + 1, .tt, true, hj', .inr (.inl ⟨rfl, rfl⟩), by rw [hnext]; rfl, rfl⟩, less⟩
    · refine Or.inl ⟨by kernel_rfl, ?_⟩
      refine ⟨fun h4 => ?_, fun h4 => ?_⟩
      · refine ⟨(j : Int) + 1, wrap64 (by omega) (by omega), ?_⟩
        exact ⟨⟨rfl, rfl⟩, ⟨j + 1, .tt, true, hj', .inr (.inl ⟨rfl, rfl⟩), by rw [hnext, h4]; rfl, rfl⟩, less⟩
      · refine ⟨by omega, _, hrow, ?_⟩
        refine ⟨_, rfl, _, h41 fo, ?_⟩
        refine ⟨(j : Int) + 1, wrap64 (by omega) (by omega), ?_⟩
        exact ⟨⟨rfl, rfl⟩, ⟨j + 1, _, _, hj', .inr (.inr rfl), by rw [hnext, h4]; rfl, rfl⟩, less⟩
  · have h3 := of_decide_eq_false h3
    rw [hSlen] at h3
    have hjS : j = S.length := by omega
    rw [hjS, List.take_length] at hfo
    have hfx : FV v x.found := by rw [hxf, ← hfo]; exact hfv
    rcases hfv with ⟨rfl, _⟩ | ⟨rfl, _⟩ | rfl
    all_goals
      refine ⟨trivial, iff' (by rw [beq_self]; rfl) ⟨rfl, ?_, _, rfl, ?_⟩⟩
      · show (R.length + 1) * 32 ≤ mostBytes; unfold mostBytes; omega
      refine ⟨((3 * (k + 1) : Nat) : Int), ?_, ?_⟩
      · rw [show ((3 * (k + 1) : Nat) : Int) = ((3 * k : Nat) : Int) + 3 by omega]
        exact wrap64 (by omega) (by omega)
      refine ⟨⟨rfl, rfl⟩, ⟨k + 1, g + 1, R ++ [row4 x _], by omega, by omega, by simp [hRl], ?_, rfl⟩, ?_⟩
      · rw [List.map_append, hR, hadd, List.map_append]
        show _ ++ [(row4 x _).map normB] = _
        rw [row4_norm hfx]; rfl
      · show (1000 - ((3 * (k + 1) : Nat) : Int)).toNat < (1000 - ((3 * k : Nat) : Int)).toNat
        omega

end Go.Proofs.Water

namespace Go.Proofs.Water
open Go.V Go.Proofs

/-! ### A truth and what samples tell of it -/

theorem told_okX {s : Sh} (hv : s.Valid) {p : Past} (hp : p.Ok) (d : List Int) (S : List Q) (k : Nat) : s.okX (s.toldX d S p k) := by
  have hdl := hv.dl
  have a0 := tmod_range (tk_in hp (3 * k)).1 (k := 101) (by decide)
  have a1 := tmod_range (tk_in hp (3 * k + 1)).1 (k := s.drifts.length) (by omega)
  have a2 := tmod_range (tk_in hp (3 * k + 2)).1 (k := 2) (by decide)
  refine ⟨a1, ?_, ?_⟩
  · show 0 ≤ (tk p (3 * k + 2)).tmod 2 ∧ (tk p (3 * k + 2)).tmod 2 ≤ 1
    omega
  · show 0 ≤ (tk p (3 * k)).tmod 101 ∧ (tk p (3 * k)).tmod 101 ≤ 100
    omega
theorem told_open {s : Sh} (h0 : s.err0 = 0) {p : Past} (hp : p.Ok) : s.openE (s.told p) = 0 := by
  obtain ⟨hv, hn⟩ := (err0_iff s).1 h0
  refine (open_iff s _).2 ⟨hv, hn, ?_, fun x hx => ?_⟩
  · unfold Sh.told
    rw [toldF_len]
    omega
  · unfold Sh.told Sh.toldF at hx
    obtain ⟨k, _, rfl⟩ := List.mem_map.1 hx
    exact told_okX hv hp _ _ k
theorem told_found {s : Sh} {p : Past} {x : Smp} (hx : x ∈ s.told p) : x.found = (s.spilled p.spills).any fun q => s.inS (driftedF s p.drifts s.drifts.length) q.1 q.2.1 q.2.2 x := by
  unfold Sh.told Sh.toldF at hx
  obtain ⟨k, _, rfl⟩ := List.mem_map.1 hx
  rfl
/-- What is spilled is in no sample in which nothing was found. -/
theorem told_clear {s : Sh} {p : Past} {q : Q} (hq : q ∈ s.spilled p.spills) : s.clear (driftedF s p.drifts s.drifts.length) (s.told p) q = true := by
  unfold Sh.clear
  rw [List.all_eq_true]
  intro x hx
  cases hf : x.found with
  | true => rfl
  | false =>
    rw [told_found hx] at hf
    have h1 := List.any_eq_false.1 hf q hq
    simp only [Bool.not_eq_true] at h1
    rw [h1]; rfl
theorem told_expl {s : Sh} {p : Past} {m : Nat} (hm : ∀ q ∈ s.spilled p.spills, m.testBit q.1 = true) : s.expl1 (driftedF s p.drifts s.drifts.length) (s.told p) m = true := by
  unfold Sh.expl1
  rw [List.all_eq_true]
  intro x hx
  unfold Sh.isE
  cases hf : x.found with
  | false => rfl
  | true =>
    have hf' := hf
    rw [told_found hx, List.any_eq_true] at hf'
    obtain ⟨q, hq, hi⟩ := hf'
    rw [Bool.not_true, Bool.false_or, List.any_eq_true]
    obtain ⟨e1, e2, e3⟩ := spills_iff.1 (pickF_mem hq)
    exact ⟨q, spills_iff.2 ⟨e1, hm q hq, e3⟩, by unfold Sh.hits; rw [hi, told_clear hq]; rfl⟩
theorem told_can {s : Sh} {p : Past} {q : Q} (hq : q ∈ s.spilled p.spills) {x : Smp} (hi : s.inS (driftedF s p.drifts s.drifts.length) q.1 q.2.1 q.2.2 x = true) : s.canAt (driftedF s p.drifts s.drifts.length) (s.told p) x q.1 = true := by
  unfold Sh.canAt
  rw [Bool.and_eq_true, List.any_eq_true]
  refine ⟨told_expl fun q hq => ?_, q, pickF_mem hq, ?_⟩
  · rw [all_bit]; exact decide_eq_true (spilled_lt hq)
  · unfold Sh.hits
    rw [hi, told_clear hq]; simp
/-- The yards that can be a source explain. -/
theorem src_expl {s : Sh} (hv : s.Valid) {l : List Smp} (hl : l.length ≤ 8) (he : s.expl l s.all = true) : s.expl l (s.can l (fnd l)) = true := by
  obtain ⟨d, hd, h1⟩ := (expl_iff hl _).1 he
  refine (expl_iff hl _).2 ⟨d, hd, ?_⟩
  have h2 := h1
  unfold Sh.expl1 at h2 ⊢
  rw [List.all_eq_true] at h2 ⊢
  intro x hx
  have h3 := h2 x hx
  unfold Sh.isE at h3 ⊢
  cases hf : x.found with
  | false => rfl
  | true =>
    rw [hf, Bool.not_true, Bool.false_or, List.any_eq_true] at h3
    rw [Bool.not_true, Bool.false_or, List.any_eq_true]
    obtain ⟨q, hq, hh⟩ := h3
    obtain ⟨e1, e2, e3⟩ := spills_iff.1 hq
    refine ⟨q, spills_iff.2 ⟨e1, (can_fnd hv hl q.1).2 ⟨d, hd, x, hx, hf, ?_⟩, e3⟩, hh⟩
    unfold Sh.canAt
    rw [Bool.and_eq_true, List.any_eq_true]
    exact ⟨h1, q, hq, by rw [hh]; simp⟩

theorem card_or : ∀ a : Nat, a < 32 → ∀ y : Nat, y < 5 → card (a ||| 2 ^ y) ≤ card a + 1 := by decide +kernel

theorem lt_of_bits {a n : Nat} (h : ∀ i, a.testBit i = true → i < n) : a < 2 ^ n :=
  Nat.lt_pow_two_of_testBit _ fun i hi => by
    cases hb : a.testBit i with
    | false => rfl
    | true => have := h i hb; omega

/-- The yards that have a spill, found one after the other. -/
structure YD (S : List Q) (k : Nat) (R : List Int) (Y : Nat) : Prop where
  y5 : Y < 32
  mem : ∀ y : Nat, Y.testBit y = true ↔ (y : Int) ∈ R
  card : card Y ≤ R.length
  len : R.length ≤ k
  all : ∀ q ∈ S.take k, (q.1 : Int) ∈ R
  sub : ∀ z ∈ R, ∃ q ∈ S, (q.1 : Int) = z

theorem YD.next {S : List Q} {k : Nat} {R : List Int} {Y : Nat} (h : YD S k R Y) {q : Q} (hk : k < S.length) (hq : S[k] = q) (hy : q.1 < 5) (_ : hasB R q.1 = false) : YD S (k + 1) (R ++ [(q.1 : Int)]) (Y ||| 2 ^ q.1) := by
  refine ⟨or_lt (n := 5) h.y5 (Nat.pow_lt_pow_right (by decide) hy), fun y => ?_, ?_, ?_, fun q' hq' => ?_, fun z hz => ?_⟩
  · rw [Nat.testBit_or, Bool.or_eq_true, h.mem, pow_bit, List.mem_append, List.mem_singleton, decide_eq_true_eq]
    constructor
    · rintro (h | rfl)
      · exact .inl h
      · exact .inr rfl
    · rintro (h | h)
      · exact .inl h
      · exact .inr (by omega)
  · have := card_or Y h.y5 q.1 hy
    have := h.card
    rw [List.length_append]; simp; omega
  · have := h.len
    rw [List.length_append]; simp; omega
  · rw [List.take_succ_eq_append_getElem hk, hq] at hq'
    rcases List.mem_append.1 hq' with h1 | h1
    · exact List.mem_append_left _ (h.all q' h1)
    · rw [List.mem_singleton.1 h1]; simp
  · rcases List.mem_append.1 hz with h1 | h1
    · exact h.sub z h1
    · exact ⟨q, by rw [← hq]; exact List.getElem_mem hk, (List.mem_singleton.1 h1).symm⟩
theorem YD.skip {S : List Q} {k : Nat} {R : List Int} {Y : Nat} (h : YD S k R Y) {q : Q} (hk : k < S.length) (hq : S[k] = q) (hn : hasB R q.1 = true) : YD S (k + 1) R Y := by
  refine ⟨h.y5, h.mem, h.card, by have := h.len; omega, fun q' hq' => ?_, h.sub⟩
  rw [List.take_succ_eq_append_getElem hk, hq] at hq'
  rcases List.mem_append.1 hq' with h1 | h1
  · exact h.all q' h1
  · rw [List.mem_singleton.1 h1]; exact hasB_iff.1 hn

end Go.Proofs.Water

namespace Go.Proofs.Water
open Go.V Go.Proofs

theorem withinB_sub {a b c : List Int} (h : withinB a b = true) (h2 : ∀ z ∈ b, z ∈ c) : withinB a c = true :=
  withinB_iff.2 fun z hz => h2 z (withinB_iff.1 h z hz)

set_option maxRecDepth 8000 in
set_option maxHeartbeats 8000000 in
theorem den7 (s : Sh) (p : Past) (hp : p.Ok) : DN 7 [.agg s.enc, .agg p.enc] (.bool true) := by
  refine mk Tryd.func7 Tryd.call7 rfl rfl ?_
  have h36 := den36 s
  by_cases h0 : s.err0 = 0
  rotate_left
  · have h0' : ¬ s.check.2.2 = 0 := h0
    have hop : s.openE [] = s.err0 := by
      unfold Sh.openE
      have : (s.err0 != 0) = true := by simpa using h0
      rw [this]
    have har : s.agreeR [] = (false, s.err0) := by
      unfold Sh.agreeR
      rw [hop]
      have : (s.err0 != 0) = true := by simpa using h0
      rw [this]
    have h17 : DN 17 [.agg s.enc, .list 0 []] (.tup [.bool false, .int .i64 s.err0]) :=
      (agreeD_congr (den17 s []) har).wkargs (.cons (.refl _) (.cons (.of (.nil 0 4)) .nil))
    obtain ⟨e, he⟩ : ∃ e, s.err0 = e := ⟨_, rfl⟩
    rw [he] at h17 h0
    refine ⟨_, rfl, _, h36, ?_⟩
    refine ⟨fun _ => ?_, fun h => ?_⟩
    rotate_left
    · exfalso
      have h : (!(s.check.2.2 == 0)) = false := h
      simp at h
      exact h0' h
    refine ⟨_, rfl, _, h17, ?_⟩
    refine ⟨fun _ => ?_, fun h => absurd (by simpa using h) h0⟩
    exact ⟨_, rfl, _, den22, rfl⟩
  have h0' : (s.check.2.2 == 0) = true := by
    have h0 : s.check.2.2 = 0 := h0
    simpa using h0
  rw [h0'] at h36
  obtain ⟨hv, _⟩ := (err0_iff s).1 h0
  have hyl := hv.yl
  have ho := told_open h0 hp
  have hok := ok_of ho
  have hdd := drifted_drf hv hp
  have hdf := drf_of hv hdd
  have h37 := den37 s hv p hp
  have h38 := den38 s hv p hp
  have h39 := den39 s hv p hp
  have hlt := fun q hq => spilled_lt (s := s) (n := p.spills) (q := q) hq
  have hSl : (s.spilled p.spills).length ≤ 30 := Nat.le_trans (pickF_len _ _ _) (spills_len hv _)
  have hE := fun m => told_expl (s := s) (p := p) (m := m)
  have hC := fun q hq x => told_can (s := s) (p := p) (q := q) hq (x := x)
  obtain ⟨L, eL⟩ : ∃ L, s.told p = L := ⟨_, rfl⟩
  obtain ⟨d, ed⟩ : ∃ d, driftedF s p.drifts s.drifts.length = d := ⟨_, rfl⟩
  obtain ⟨S, eS⟩ : ∃ S, s.spilled p.spills = S := ⟨_, rfl⟩
  rw [eL] at ho hok h37 hE hC
  rw [ed] at hdd hdf h38 hE hC
  rw [eS] at h39 hlt hSl hE hC
  have hx : s.expl L s.all = true := (expl_iff hok.ll _).2 ⟨d, hdd, hE s.all fun q hq => by rw [all_bit]; exact decide_eq_true (hlt q hq)⟩
  have h17 : DN 17 [.agg s.enc, .list 4 (L.map Smp.enc)] (.tup [.bool true, .int .i64 0]) := by
    have := agree_open ho
    rw [hx] at this
    exact agreeD_congr (den17 s L) this
  have h23 := listD_congr (den23 s L) (sourcesR_ok ho hx)
  have h25 := listD_congr (den25 s L) (mustR_ok ho hx)
  have h27 := listD_congr (den27 s L) (fewestR_ok ho hx)
  have hMl := mustL_small hv L
  have hCl := can_lt s L (fnd L)
  have hMS := must_in hok.ll hv (src_expl hv hok.ll hx) (fun i hi => by rw [all_bit]; exact decide_eq_true (can_yard hv hok.ll hi))
  have hMY := fun Y hY => must_in hok.ll hv (B := Y) hY
  have hBY := fun Y (hY : Y < 2 ^ s.yards.length) he => bestN_min (p := s.expl L) (all := s.all) _ Y hY he
  have hsrc := fun y => can_fnd hv hok.ll (l := L) y
  obtain ⟨M, eM⟩ : ∃ M, s.mustL L s.yards.length = M := ⟨_, rfl⟩
  rw [eM] at h25 hMl hMS hMY
  obtain ⟨B, eB⟩ : ∃ B, bestN (s.expl L) s.all (2 ^ s.yards.length) = B := ⟨_, rfl⟩
  rw [eB] at h27 hBY
  have hSrcl := yardsZ_le (s.can L (fnd L))
  have hsrc2 : ∀ q ∈ S, ∀ x ∈ L, x.found = true → s.inS d q.1 q.2.1 q.2.2 x = true → hasB (yardsZ (s.can L (fnd L))) q.1 = true := fun q hq x hxL hf hi =>
    hasB_iff.2 (yardsZ_mem.2 ⟨q.1, by have := hlt q hq; omega, (hsrc q.1).2 ⟨d, hdd, x, hxL, hf, hC q hq x hi⟩, rfl⟩)
  obtain ⟨Z, eZ⟩ : ∃ Z, yardsZ (s.can L (fnd L)) = Z := ⟨_, rfl⟩
  rw [eZ] at h23 hMS hSrcl hsrc2
  refine ⟨_, rfl, _, h36, ?_⟩
  refine ⟨fun h => absurd h (by decide), fun _ => ?_⟩
  refine Or.inl ⟨by kernel_rfl, ?_⟩
  refine ⟨_, rfl, _, h37, ?_⟩
  refine ⟨_, rfl, _, h38, ?_⟩
  refine ⟨_, rfl, _, h39, ?_⟩
  refine ⟨_, rfl, _, h17, ?_⟩
  refine ⟨_, rfl, _, h23, ?_⟩
  refine ⟨_, rfl, _, h25, ?_⟩
  refine ⟨_, rfl, _, h27, ?_⟩
  refine ⟨fun h => absurd h (by decide), fun _ => ?_⟩
  refine ⟨fun h => absurd h (by decide), fun _ => ?_⟩
  refine ⟨fun h => absurd h (by decide), fun _ => ?_⟩
  refine ⟨fun h => absurd h (by decide), fun _ => ?_⟩
  refine ⟨fun h => absurd h (by decide), fun _ => ?_⟩
  have hSlen : ((S.map rowQ).length : Int) = S.length := rowQ_len _
  refine ⟨[2, 7, 8, 9, 12, 14, 16, 18, 19], 2, [(.slot 18, 1)], fun σ => ∃ (k g : Nat) (R : List Int) (Y : Nat), k ≤ S.length ∧ YD S k R Y ∧
    σ = ⟨[(2, .loc 0 0), (7, .list 4 (L.map Smp.enc)), (8, .list 1 (d.map encI)), (9, .list 3 (S.map rowQ)), (12, .list 1 (Z.map encI)), (14, .list 1 (M.map encI)), (16, .list 1 ((yardsZ B).map encI)), (18, .sl 2 g 0 (R.map encI).length), (19, .int .i64 k)],
      [.flat false s.enc, .flat false p.enc, .rows false g 1 (R.map encI)], .non⟩,
    fun σ => (1000 - slotI 19 σ).toNat, rfl, ⟨rfl, rfl⟩, ⟨0, 0, [], 0, Nat.zero_le _, ⟨by decide, fun y => by simp, Nat.le_refl _, Nat.le_refl _, fun q hq => by simp at hq, fun z hz => by cases hz⟩, rfl⟩, ?_⟩
  rintro σ ⟨k, g, R, Y, hk, hY, rfl⟩
  refine ⟨fun h3 => ?_, fun h3 => ?_⟩
  · have h3 := of_decide_eq_true h3
    rw [hSlen] at h3
    have hk' : k < S.length := by omega
    obtain ⟨q, hq⟩ : ∃ q, S[k] = q := ⟨_, rfl⟩
    have hqy := hlt q (by rw [← hq]; exact List.getElem_mem hk')
    have hrow : (S.map rowQ)[((k : Int)).toNat]? = some (rowQ q) := by simp [hk', hq]
    have hRl := hY.len
    have less : (1000 - ((k : Int) + 1)).toNat < (1000 - (k : Int)).toNat := by omega
    refine ⟨by omega, _, hrow, ?_⟩
    refine ⟨_, mapO_cons (reify_sl rfl rfl) (mapO_cons rfl rfl), _, den40 R q.1 (by omega), ?_⟩
    refine ⟨fun h4 => ?_, fun h4 => ?_⟩
    · have h4 : hasB R q.1 = false := by
        have h4 : (!(hasB R q.1)) = true := h4
        simpa using h4
      have hcat : R.map encI ++ [[D.int .i64 q.1]] = (R ++ [(q.1 : Int)]).map encI := by simp [encI]
      refine ⟨by omega, _, hrow, ?_⟩
      refine ⟨trivial, iff' (by rw [beq_self]; rfl) ⟨rfl, ?_, _, hcat, ?_⟩⟩
      · rw [encI_len]; show (_ + 1) * 8 ≤ mostBytes; unfold mostBytes; omega
      refine ⟨(k : Int) + 1, wrap64 (by omega) (by omega), ?_⟩
      exact ⟨⟨rfl, rfl⟩, ⟨k + 1, g + 1, R ++ [(q.1 : Int)], Y ||| 2 ^ q.1, hk', hY.next hk' hq (by omega) h4, rfl⟩, less⟩
    · have h4 : hasB R q.1 = true := by
        have h4 : (!(hasB R q.1)) = false := h4
        simpa using h4
      refine ⟨(k : Int) + 1, wrap64 (by omega) (by omega), ?_⟩
      exact ⟨⟨rfl, rfl⟩, ⟨k + 1, g, R, Y, hk', hY.skip hk' hq h4, rfl⟩, less⟩
  have h3 := of_decide_eq_false h3
  rw [hSlen] at h3
  have hkS : k = S.length := by omega
  have hYall := hY.all
  rw [hkS, List.take_length] at hYall
  have hYn : ∀ i, Y.testBit i = true → i < s.yards.length := fun i hi => by
    obtain ⟨q, hq, e⟩ := hY.sub _ ((hY.mem i).1 hi)
    have := hlt q hq
    omega
  have hYe : s.expl L Y = true := (expl_iff hok.ll _).2 ⟨d, hdd, hE Y fun q hq => (hY.mem q.1).2 (hYall q hq)⟩
  have hMR : withinB M R = true := withinB_sub (hMY Y hYe fun i hi => by rw [all_bit]; exact decide_eq_true (hYn i hi)) fun z hz => by
    obtain ⟨y, _, hb, rfl⟩ := yardsZ_mem.1 hz
    exact (hY.mem y).1 hb
  have hBR : (yardsZ B).length ≤ R.length := by
    have h1 := hBY Y (lt_of_bits hYn) hYe
    have h2 := hY.card
    rw [yardsZ_len]
    unfold card at h1 h2
    omega
  have hRl := hY.len
  have hLl : ((L.map Smp.enc).length : Int) = L.length := smp_lenI L
  have hll := hok.ll
  clear hY hYall hYn hYe
  refine ⟨[2, 7, 8, 9, 12, 14, 16, 18, 20], 3, [], fun σ => ∃ (i : Nat), i ≤ L.length ∧
    σ = ⟨[(2, .loc 0 0), (7, .list 4 (L.map Smp.enc)), (8, .list 1 (d.map encI)), (9, .list 3 (S.map rowQ)), (12, .list 1 (Z.map encI)), (14, .list 1 (M.map encI)), (16, .list 1 ((yardsZ B).map encI)), (18, .sl 2 g 0 (R.map encI).length), (20, .int .i64 i)],
      [.flat false s.enc, .flat false p.enc, .rows false g 1 (R.map encI)], .non⟩,
    fun σ => (1000 - slotI 20 σ).toNat, rfl, ⟨rfl, rfl⟩, ⟨0, Nat.zero_le _, rfl⟩, ?_⟩
  rintro σ ⟨i, hi, rfl⟩
  refine ⟨fun h4 => ?_, fun h4 => ?_⟩
  rotate_left
  · have h42 := den42 M R (by omega) (by omega)
    rw [hMR] at h42
    have h42b := den42 M Z (by omega) (by omega)
    rw [hMS] at h42b
    have hle : decide ((((yardsZ B).map encI).length : Int) ≤ ((R.map encI).length : Nat)) = true := by
      refine decide_eq_true ?_
      rw [encI_len, encI_len]; omega
    refine ⟨_, mapO_cons rfl (mapO_cons (reify_sl rfl rfl) rfl), _, h42, ?_⟩
    refine ⟨fun _ => ?_, fun h => absurd h (by decide)⟩
    refine ⟨_, rfl, _, h42b, ?_⟩
    refine ⟨fun _ => ?_, fun h => absurd h (by decide)⟩
    refine ⟨fun _ => ?_, fun h => absurd (hle.symm.trans h) (by decide)⟩
    exact ⟨_, rfl, _, den22, rfl⟩
  have h4 := of_decide_eq_true h4
  rw [hLl] at h4
  have hi' : i < L.length := by omega
  obtain ⟨x, hxi⟩ : ∃ x, L[i] = x := ⟨_, rfl⟩
  have hgx : L[i]? = some x := by rw [List.getElem?_eq_getElem hi', hxi]
  have hxL := List.mem_of_getElem? hgx
  have hrowx : (L.map Smp.enc)[((i : Int)).toNat]? = some (x.enc) := by simp [hi', hxi]
  have less : (1000 - ((i : Int) + 1)).toNat < (1000 - (i : Int)).toNat := by omega
  refine ⟨by omega, _, hrowx, ?_⟩
  refine ⟨fun h5 => ?_, fun h5 => ?_⟩
  · refine ⟨(i : Int) + 1, wrap64 (by omega) (by omega), ?_⟩
    exact ⟨⟨rfl, rfl⟩, ⟨i + 1, hi', rfl⟩, less⟩
  have hf : x.found = true := by
    have h5 : (!x.found) = false := h5
    simpa using h5
  have h19 := listD_congr (den19 s L i) (canR_ok ho hx hgx hf)
  have hc2 : ∀ q ∈ S, s.inS d q.1 q.2.1 q.2.2 x = true → hasB (yardsZ (s.can L (2 ^ i))) q.1 = true := fun q hq hin =>
    hasB_iff.2 (yardsZ_mem.2 ⟨q.1, by have := hlt q hq; omega, (can_one hv hok.ll hgx q.1).2 ⟨d, hdd, hC q hq x hin⟩, rfl⟩)
  have hCl2 := yardsZ_le (s.can L (2 ^ i))
  obtain ⟨N, eN⟩ : ∃ N, yardsZ (s.can L (2 ^ i)) = N := ⟨_, rfl⟩
  rw [eN] at h19 hc2 hCl2
  refine ⟨_, rfl, _, h19, ?_⟩
  refine ⟨fun h => absurd h (by decide), fun _ => ?_⟩
  refine ⟨[2, 7, 8, 9, 12, 14, 16, 18, 20, 21, 23], 3, [], fun σ => ∃ (j : Nat), j ≤ S.length ∧
    σ = ⟨[(2, .loc 0 0), (7, .list 4 (L.map Smp.enc)), (8, .list 1 (d.map encI)), (9, .list 3 (S.map rowQ)), (12, .list 1 (Z.map encI)), (14, .list 1 (M.map encI)), (16, .list 1 ((yardsZ B).map encI)), (18, .sl 2 g 0 (R.map encI).length), (20, .int .i64 i), (21, .list 1 (N.map encI)), (23, .int .i64 j)],
      [.flat false s.enc, .flat false p.enc, .rows false g 1 (R.map encI)], .non⟩,
    fun σ => (1000 - slotI 23 σ).toNat, rfl, ⟨rfl, rfl⟩, ⟨0, Nat.zero_le _, rfl⟩, ?_⟩
  rintro σ ⟨j, hj, rfl⟩
  refine ⟨fun h6 => ?_, fun h6 => ?_⟩
  rotate_left
  · refine ⟨(i : Int) + 1, wrap64 (by omega) (by omega), ?_⟩
    exact ⟨⟨rfl, rfl⟩, ⟨i + 1, hi', rfl⟩, less⟩
  have h6 := of_decide_eq_true h6
  rw [hSlen] at h6
  have hj' : j < S.length := by omega
  obtain ⟨q, hq⟩ : ∃ q, S[j] = q := ⟨_, rfl⟩
  have hqS : q ∈ S := by rw [← hq]; exact List.getElem_mem hj'
  have hqy := hlt q hqS
  have hrow : (S.map rowQ)[((j : Int)).toNat]? = some (rowQ q) := by simp [hj', hq]
  have less2 : (1000 - ((j : Int) + 1)).toNat < (1000 - (j : Int)).toNat := by omega
  have h41 := den41 s hv d hdf q.1 q.2.1 q.2.2 hqy x (hok.x x hxL)
  refine Or.inl ⟨by kernel_rfl, ?_⟩
  refine ⟨by omega, _, hrow, ?_⟩
  refine ⟨by omega, _, hrowx, ?_⟩
  refine ⟨_, rfl, _, h41, ?_⟩
  refine ⟨fun h7 => ?_, fun h7 => ?_⟩
  · have hin : s.inS d q.1 q.2.1 q.2.2 x = true := h7
    have ha := den40 N q.1 (by omega)
    rw [hc2 q hqS hin] at ha
    have hb := den40 Z q.1 (by omega)
    rw [hsrc2 q hqS x hxL hf hin] at hb
    refine ⟨by omega, _, hrow, ?_⟩
    refine ⟨_, rfl, _, ha, ?_⟩
    refine ⟨fun h => absurd h (by decide), fun _ => ?_⟩
    refine ⟨by omega, _, hrow, ?_⟩
    refine ⟨_, rfl, _, hb, ?_⟩
    refine ⟨fun h => absurd h (by decide), fun _ => ?_⟩
    refine ⟨(j : Int) + 1, wrap64 (by omega) (by omega), ?_⟩
    exact ⟨⟨rfl, rfl⟩, ⟨j + 1, hj', rfl⟩, less2⟩
  · refine ⟨(j : Int) + 1, wrap64 (by omega) (by omega), ?_⟩
    exact ⟨⟨rfl, rfl⟩, ⟨j + 1, hj', rfl⟩, less2⟩

end Go.Proofs.Water
