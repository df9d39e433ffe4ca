/- The law's helpers: the drifts of a draw; The law's helpers: the spills of a truth; The law's helpers: what samples show in a truth. No condition. -/
import Derived.Test.YtdhdeopenednaaaGreatDoorPackXD

namespace Go.Proofs.Water
open Go.V Go.Proofs Go.Proofs.Top

def driftedF (s : Sh) (ds : List Int) (k : Nat) : List Int := (List.range k).map fun i : Nat => match s.drifts[i]? with | some x => amongE x (turnE ds i) | none => 0
theorem driftedF_len (s : Sh) (ds : List Int) (k : Nat) : (driftedF s ds k).length = k := by unfold driftedF; simp
theorem driftedF_add (s : Sh) (ds : List Int) (k : Nat) (h : k < s.drifts.length) : driftedF s ds (k + 1) = driftedF s ds k ++ [amongE s.drifts[k] (turnE ds k)] := by
  unfold driftedF; rw [List.range_succ, List.map_append]; simp [h]

/-- A truth, by turns. -/
structure Past where
  drifts : List Int
  spills : Nat
  taken : List Int
def Past.enc (p : Past) : List D := [.list 1 (p.drifts.map enc16), .int .u32 p.spills, .list 1 (p.taken.map enc16)]
structure Past.Ok (p : Past) : Prop where
  d : inL p.drifts 65536
  s : p.spills < 2 ^ 32
  t : inL p.taken 65536

theorem den12 (s : Sh) (hv : s.Valid) (p : Past) (hp : p.Ok) : DN 12 [.agg s.enc, .agg p.enc] (.list 1 ((driftedF s p.drifts s.drifts.length).map encI)) := by
  refine mk Tryz.func12 Tryz.call12 rfl rfl ?_
  have hdl := hv.dl
  refine ⟨[2, 3, 5, 6], 2, [(.slot 5, 1)], fun σ => ∃ (k g : Nat), k ≤ s.drifts.length ∧
    σ = ⟨[(2, .loc 0 0), (3, .loc 1 0), (5, .sl 2 g 0 ((driftedF s p.drifts k).map encI).length), (6, .int .i64 k)], [.flat false s.enc, .flat false p.enc, .rows false g 1 ((driftedF s p.drifts k).map encI)], .non⟩,
    fun σ => (1000 - slotI 6 σ).toNat, rfl, ⟨rfl, rfl⟩, ⟨0, 0, Nat.zero_le _, rfl⟩, ?_⟩
  rintro σ ⟨k, g, hk, rfl⟩
  have hml := driftedF_len s p.drifts k
  refine ⟨fun h3 => ?_, fun h3 => ?_⟩
  · have h3 := of_decide_eq_true h3
    rw [sp_len] at h3
    have hk' : k < s.drifts.length := by omega
    obtain ⟨x, hx⟩ : ∃ x, s.drifts[k] = x := ⟨_, rfl⟩
    have hrow : (s.drifts.map Sp.enc)[((k : Int)).toNat]? = some (x.enc) := by simp [hk', hx]
    have hb := hv.d x (by rw [← hx]; exact List.getElem_mem hk')
    have ht := turn_in hp.d (by decide) (k : Int)
    have hadd := driftedF_add s p.drifts k hk'
    rw [hx] at hadd
    have hcat : (driftedF s p.drifts k).map encI ++ [[D.int .i64 (amongE x (turnE p.drifts k))]] = (driftedF s p.drifts (k + 1)).map encI := by rw [hadd]; simp [encI]
    refine Or.inl ⟨by kernel_rfl, ?_⟩
    refine ⟨by omega, _, hrow, ?_⟩
    refine ⟨_, rfl, _, den53 p.drifts k hp.d (by omega), ?_⟩
    refine ⟨_, rfl, _, den52 x (turnE p.drifts k) hb.2.1 (by omega) ht.1, ?_⟩
    refine ⟨trivial, iff' (by rw [beq_self]; rfl) ⟨rfl, ?_, _, hcat, ?_⟩⟩
    · rw [encI_len, hml]; show (k + 1) * 8 ≤ mostBytes; unfold mostBytes; omega
    refine ⟨(k : Int) + 1, wrap64 (by omega) (by omega), ?_⟩
    exact ⟨⟨rfl, rfl⟩, ⟨k + 1, g + 1, hk', rfl⟩, by show (1000 - ((k : Int) + 1)).toNat < (1000 - (k : Int)).toNat; omega⟩
  · have h3 := of_decide_eq_false h3
    rw [sp_len] at h3
    have hk' : k = s.drifts.length := by omega
    rw [← hk']
    show reify [.flat false s.enc, .flat false p.enc, .rows false g 1 ((driftedF s p.drifts k).map encI)] 8 (.sl 2 g 0 ((driftedF s p.drifts k).map encI).length) = _
    exact reify_sl rfl rfl

end Go.Proofs.Water

namespace Go.Proofs.Water
open Go.V Go.Proofs Go.Proofs.Top

/-- The spills of a truth, of the first k. -/
def Sh.pickF (s : Sh) (n k : Nat) : List Q := (List.range k).filterMap fun i => if n.testBit i = true then (s.spills s.all)[i]? else none
theorem pickF_len (s : Sh) (n k : Nat) : (s.pickF n k).length ≤ k := by
  unfold Sh.pickF
  refine Nat.le_trans (List.length_filterMap_le _ _) ?_
  simp
theorem pickF_add {s : Sh} {n k : Nat} {q : Q} (h : n.testBit k = true) (hq : (s.spills s.all)[k]? = some q) : s.pickF n (k + 1) = s.pickF n k ++ [q] := by
  unfold Sh.pickF
  rw [List.range_succ, List.filterMap_append]
  simp [h, hq]
theorem pickF_skip {s : Sh} {n k : Nat} (h : n.testBit k = false) : s.pickF n (k + 1) = s.pickF n k := by
  unfold Sh.pickF
  rw [List.range_succ, List.filterMap_append]
  simp [h]
theorem pickF_mem {s : Sh} {n k : Nat} {q : Q} (h : q ∈ s.pickF n k) : q ∈ s.spills s.all := by
  unfold Sh.pickF at h
  obtain ⟨i, _, hi⟩ := List.mem_filterMap.1 h
  split at hi
  · exact List.mem_of_getElem? hi
  · cases hi
/-- The spills of a truth. -/
def Sh.spilled (s : Sh) (n : Nat) : List Q := s.pickF n (s.spills s.all).length

theorem rowQ_len (L : List Q) : ((L.map rowQ).length : Int) = L.length := by simp

set_option maxRecDepth 4000 in
theorem den13 (s : Sh) (hv : s.Valid) (p : Past) (hp : p.Ok) : DN 13 [.agg s.enc, .agg p.enc] (.list 3 ((s.spilled p.spills).map rowQ)) := by
  refine mk Tryz.func13 Tryz.call13 rfl rfl ?_
  have hyl := hv.yl
  have hall := all_lt hv
  have h50 := den26 s.yards.length (by omega)
  rw [← yd_len] at h50
  have h2 : 2 ^ s.yards.length ≤ 2 ^ 5 := Nat.pow_le_pow_right (by decide) hyl.2
  have h3 : 0 < 2 ^ s.yards.length := Nat.two_pow_pos _
  have e : ((2 ^ s.yards.length : Nat) : Int) - 1 = ((s.all : Nat) : Int) := by unfold Sh.all; omega
  have hA := spills_len hv s.all
  refine Or.inl ⟨by kernel_rfl, ?_⟩
  refine ⟨_, rfl, _, h50, ?_⟩
  refine ⟨((s.all : Nat) : Int), (congrArg IntKind.i64.wrap e).trans (wrap64 (by omega) (by omega)), ?_⟩
  refine ⟨_, rfl, _, den54 s hv s.all (by omega), ?_⟩
  have hsp : s.spilled p.spills = s.pickF p.spills (s.spills s.all).length := rfl
  obtain ⟨S, hS⟩ : ∃ S, s.spilled p.spills = S := ⟨_, rfl⟩
  rw [hS] at hsp ⊢
  obtain ⟨A, hAA⟩ : ∃ A, s.spills s.all = A := ⟨_, rfl⟩
  rw [hAA] at hA hsp ⊢
  refine ⟨[3, 5, 6, 7], 2, [(.slot 6, 3)], fun σ => ∃ (k g : Nat), k ≤ A.length ∧
    σ = ⟨[(3, .loc 1 0), (5, .list 3 (A.map rowQ)), (6, .sl 2 g 0 ((s.pickF p.spills k).map rowQ).length), (7, .int .i64 k)], [.flat false s.enc, .flat false p.enc, .rows false g 3 ((s.pickF p.spills k).map rowQ)], .non⟩,
    fun σ => (1000 - slotI 7 σ).toNat, rfl, ⟨rfl, rfl⟩, ⟨0, 0, Nat.zero_le _, rfl⟩, ?_⟩
  rintro σ ⟨k, g, hk, rfl⟩
  have hml := pickF_len s p.spills k
  have less : (1000 - ((k : Int) + 1)).toNat < (1000 - (k : Int)).toNat := by omega
  refine ⟨fun h3 => ?_, fun h3 => ?_⟩
  · have h3 := of_decide_eq_true h3
    rw [rowQ_len] at h3
    have hk' : k < A.length := by omega
    obtain ⟨q, hq⟩ : ∃ q, A[k] = q := ⟨_, rfl⟩
    have hqk : A[k]? = some q := by rw [List.getElem?_eq_getElem hk', hq]
    have hrow : (A.map rowQ)[((k : Int)).toNat]? = some (rowQ q) := by simp [hk', hq]
    have hps := hp.s
    refine ⟨(p.spills : Int), wrap64 (by omega) (by omega), ?_⟩
    refine ⟨_, rfl, _, den55 p.spills k (by omega) (by omega), ?_⟩
    refine ⟨fun h4 => ?_, fun h4 => ?_⟩
    · have h4 : p.spills.testBit k = true := h4
      have hadd := pickF_add (s := s) h4 (by rw [hAA]; exact hqk)
      have hcat : (s.pickF p.spills k).map rowQ ++ [rowQ q] = (s.pickF p.spills (k + 1)).map rowQ := by rw [hadd]; simp
      refine ⟨by omega, _, hrow, ?_⟩
      refine ⟨trivial, iff' (by rw [beq_self]; rfl) ⟨rfl, ?_, _, hcat, ?_⟩⟩
      · rw [List.length_map]; show (_ + 1) * 24 ≤ mostBytes; unfold mostBytes; omega
      refine ⟨(k : Int) + 1, wrap64 (by omega) (by omega), ?_⟩
      exact ⟨⟨rfl, rfl⟩, ⟨k + 1, g + 1, hk', rfl⟩, less⟩
    · have h4 : p.spills.testBit k = false := h4
      refine ⟨(k : Int) + 1, wrap64 (by omega) (by omega), ?_⟩
      exact ⟨⟨rfl, rfl⟩, ⟨k + 1, g, hk', by rw [pickF_skip h4]; rfl⟩, less⟩
  · have h3 := of_decide_eq_false h3
    rw [rowQ_len] at h3
    have hk' : k = A.length := by omega
    rw [hsp, ← hk']
    show reify [.flat false s.enc, .flat false p.enc, .rows false g 3 ((s.pickF p.spills k).map rowQ)] 8 (.sl 2 g 0 ((s.pickF p.spills k).map rowQ).length) = _
    exact reify_sl rfl rfl

end Go.Proofs.Water

namespace Go.Proofs.Water
open Go.V Go.Proofs Go.Proofs.Top

def tk (p : Past) (i : Nat) : Int := dAt p.taken i
/-- What the k-th sample shows. -/
def Sh.toldX (s : Sh) (d : List Int) (L : List Q) (p : Past) (k : Nat) : Smp :=
  ⟨(tk p (3 * k)).tmod 101, (tk p (3 * k + 1)).tmod s.drifts.length, (tk p (3 * k + 2)).tmod 2,
   L.any fun q => s.inS d q.1 q.2.1 q.2.2 ⟨(tk p (3 * k)).tmod 101, (tk p (3 * k + 1)).tmod s.drifts.length, (tk p (3 * k + 2)).tmod 2, false⟩⟩
def Sh.toldF (s : Sh) (p : Past) (k : Nat) : List Smp := (List.range k).map fun i => s.toldX (driftedF s p.drifts s.drifts.length) (s.spilled p.spills) p i
theorem toldF_len (s : Sh) (p : Past) (k : Nat) : (s.toldF p k).length = k := by unfold Sh.toldF; simp
theorem toldF_add (s : Sh) (p : Past) (k : Nat) : s.toldF p (k + 1) = s.toldF p k ++ [s.toldX (driftedF s p.drifts s.drifts.length) (s.spilled p.spills) p k] := by
  unfold Sh.toldF; rw [List.range_succ, List.map_append]; rfl
def Sh.told (s : Sh) (p : Past) : List Smp := s.toldF p (min 8 (p.taken.length / 3))

theorem enc16_get {l : List Int} {i : Nat} (h : i < l.length) {z : Int} (hz : z = (i : Int)) : (l.map enc16)[z.toNat]? = some (enc16 (dAt l i)) := by
  subst hz; simp [h, dAt]
theorem enc16_len (l : List Int) : ((l.map enc16).length : Int) = l.length := by simp
theorem tk_in {p : Past} (hp : p.Ok) (i : Nat) : 0 ≤ tk p i ∧ tk p i < 65536 := by
  unfold tk dAt
  cases hv : p.taken[i]? with
  | none => exact ⟨by decide, by decide⟩
  | some v => exact hp.t v (List.mem_of_getElem? hv)
theorem drifted_drf {s : Sh} (hv : s.Valid) {p : Past} (hp : p.Ok) : driftedF s p.drifts s.drifts.length ∈ drs s.drifts := by
  refine drs_in (driftedF_len _ _ _) fun i b hb => ?_
  have hi := (List.getElem?_eq_some_iff.1 hb).1
  have hbm := hv.d b (List.mem_of_getElem? hb)
  have ht := turn_in hp.d (by decide) (i : Int)
  have e : dAt (driftedF s p.drifts s.drifts.length) i = amongE b (turnE p.drifts i) := by
    have hbi : s.drifts[i] = b := by rw [List.getElem?_eq_getElem hi] at hb; exact Option.some.inj hb
    unfold dAt driftedF
    simp [hi, hbi]
  rw [e]
  exact among_in hbm.2.1 ht.1
theorem spilled_lt {s : Sh} {n : Nat} {q : Q} (h : q ∈ s.spilled n) : q.1 < s.yards.length := (spills_mem (pickF_mem h)).1

/-- How what is found is told while it is looked for. -/
def FV (v : D) (b : Bool) : Prop := (v = .ff ∧ b = false) ∨ (v = .tt ∧ b = true) ∨ v = .bool b
def row4 (x : Smp) (v : D) : List D := [.int .i64 x.place, .int .i64 x.tide, .int .i64 x.kind, v]
theorem row4_norm {x : Smp} {v : D} (h : FV v x.found) : (row4 x v).map normB = x.enc := by
  rcases h with ⟨rfl, h⟩ | ⟨rfl, h⟩ | rfl
  · show [D.int .i64 x.place, .int .i64 x.tide, .int .i64 x.kind, .bool false] = x.enc
    unfold Smp.enc; rw [h]
  · show [D.int .i64 x.place, .int .i64 x.tide, .int .i64 x.kind, .bool true] = x.enc
    unfold Smp.enc; rw [h]
  · rfl

set_option maxRecDepth 8000 in
set_option maxHeartbeats 4000000 in
theorem den11 (s : Sh) (hv : s.Valid) (p : Past) (hp : p.Ok) : DN 11 [.agg s.enc, .agg p.enc] (.list 4 ((s.told p).map Smp.enc)) := by
  refine mkW Tryz.func11 Tryz.call11 rfl rfl ?_
  have hdl := hv.dl
  have hdd := drifted_drf hv hp
  have hdf := drf_of hv hdd
  have hlt := fun q hq => spilled_lt (s := s) (n := p.spills) (q := q) hq
  have hSl : (s.spilled p.spills).length ≤ 30 := Nat.le_trans (pickF_len _ _ _) (spills_len hv _)
  refine Or.inl ⟨by kernel_rfl, ?_⟩
  refine ⟨_, rfl, _, den12 s hv p hp, ?_⟩
  refine ⟨_, rfl, _, den13 s hv p hp, ?_⟩
  have hT : s.told p = s.toldF p (min 8 (p.taken.length / 3)) := rfl
  obtain ⟨TL, hTL⟩ : ∃ TL, s.told p = TL := ⟨_, rfl⟩
  rw [hTL] at hT ⊢
  have hadd := toldF_add s p
  have hlenT := toldF_len s p
  obtain ⟨TF, hTF⟩ : ∃ TF, s.toldF p = TF := ⟨_, rfl⟩
  rw [hTF] at hT hadd hlenT
  obtain ⟨d, hd⟩ : ∃ d, driftedF s p.drifts s.drifts.length = d := ⟨_, rfl⟩
  obtain ⟨S, hS⟩ : ∃ S, s.spilled p.spills = S := ⟨_, rfl⟩
  rw [hd] at hdf hadd ⊢
  rw [hS] at hlt hSl hadd ⊢
  have htk := tk_in hp
  have hT0 : TF 0 = [] := by rw [← hTF]; rfl
  refine ⟨[2, 3, 5, 6, 7, 8], 2, [(.slot 7, 4)], fun σ => ∃ (k g : Nat) (R : List (List D)), k ≤ 8 ∧ 3 * k ≤ p.taken.length ∧ R.length = k ∧ R.map (·.map normB) = (TF k).map Smp.enc ∧
    σ = ⟨[(2, .loc 0 0), (3, .loc 1 0), (5, .list 1 (d.map encI)), (6, .list 3 (S.map rowQ)), (7, .sl 2 g 0 R.length), (8, .int .i64 ((3 * k : Nat) : Int))], [.flat false s.enc, .flat false p.enc, .rows false g 4 R], .non⟩,
    fun σ => (1000 - slotI 8 σ).toNat, rfl, ⟨rfl, rfl⟩, ⟨0, 0, [], by omega, by omega, rfl, by rw [hT0]; rfl, rfl⟩, ?_⟩
  rintro σ ⟨k, g, R, hk, hk3, hRl, hR, rfl⟩
  have htl : ((p.taken.map enc16).length : Int) = p.taken.length := enc16_len _
  have exit : ¬ (3 * k + 2 < p.taken.length ∧ k < 8) → ∃ d0, reify [.flat false s.enc, .flat false p.enc, .rows false g 4 R] 8 (.sl 2 g 0 R.length) = some d0 ∧ Wk d0 (.list 4 (TL.map Smp.enc)) := fun h => by
    have hkk : k = min 8 (p.taken.length / 3) := by omega
    refine ⟨_, reify_sl rfl rfl, ?_⟩
    rw [hT, ← hkk, ← hR]
    exact .rows _ _
  refine ⟨((3 * k : Nat) : Int) + 2, wrap64 (by omega) (by omega), ?_⟩
  refine ⟨fun h1 => ?_, fun h1 => ?_⟩
  rotate_left
  · have h1 := of_decide_eq_false h1
    rw [htl] at h1
    exact exit (by omega)
  have h1 := of_decide_eq_true h1
  rw [htl] at h1
  refine ⟨fun h2 => ?_, fun h2 => ?_⟩
  rotate_left
  · have h2 : ¬ ((R.length : Nat) : Int) < 8 := of_decide_eq_false h2
    exact exit (by omega)
  have h2 : ((R.length : Nat) : Int) < 8 := of_decide_eq_true h2
  have a0 := htk (3 * k)
  have a1 := htk (3 * k + 1)
  have a2 := htk (3 * k + 2)
  have m0 := tmod_range a0.1 (k := 101) (by decide)
  have m1 := tmod_range a1.1 (k := s.drifts.length) (by omega)
  have m2 := tmod_range a2.1 (k := 2) (by decide)
  obtain ⟨x, hx⟩ : ∃ x : Smp, s.toldX d S p k = x := ⟨_, rfl⟩
  have hxp : (tk p (3 * k)).tmod 101 = x.place := by rw [← hx]; rfl
  have hxt : (tk p (3 * k + 1)).tmod s.drifts.length = x.tide := by rw [← hx]; rfl
  have hxk : (tk p (3 * k + 2)).tmod 2 = x.kind := by rw [← hx]; rfl
  have hxf : x.found = S.any fun q => s.inS d q.1 q.2.1 q.2.2 x := by rw [← hx]; rfl
  rw [hxp] at m0
  rw [hxt] at m1
  rw [hxk] at m2
  have hadd := hadd k
  rw [hx] at hadd
  have hr0 : (p.taken.map enc16)[(((3 * k : Nat) : Int)).toNat]? = some (enc16 (tk p (3 * k))) := enc16_get (by omega) rfl
  have hr1 : (p.taken.map enc16)[(((3 * k : Nat) : Int) + 1).toNat]? = some (enc16 (tk p (3 * k + 1))) := enc16_get (by omega) (by omega)
  have hr2 : (p.taken.map enc16)[(((3 * k : Nat) : Int) + 2).toNat]? = some (enc16 (tk p (3 * k + 2))) := enc16_get (by omega) (by omega)
  refine Or.inl ⟨by kernel_rfl, ?_⟩
  refine ⟨by omega, _, hr0, ?_⟩
  refine ⟨_, wrap64 (by omega) (by omega), ?_⟩
  refine ⟨by decide, _, hxp, ?_⟩
  refine ⟨((3 * k : Nat) : Int) + 1, wrap64 (by omega) (by omega), ?_⟩
  refine ⟨by omega, _, hr1, ?_⟩
  refine ⟨_, wrap64 (by omega) (by omega), ?_⟩
  refine ⟨by rw [sp_len]; omega, x.tide, by rw [sp_len]; exact hxt, ?_⟩
  refine ⟨((3 * k : Nat) : Int) + 2, wrap64 (by omega) (by omega), ?_⟩
  refine ⟨by omega, _, hr2, ?_⟩
  refine ⟨_, wrap64 (by omega) (by omega), ?_⟩
  refine ⟨by decide, _, hxk, ?_⟩
  refine ⟨[2, 3, 5, 6, 7, 8, 9, 10], 4, [], fun σ => ∃ (j : Nat) (v : D) (fo : Bool), j ≤ S.length ∧ FV v fo ∧ fo = ((S.take j).any fun q => s.inS d q.1 q.2.1 q.2.2 x) ∧
    σ = ⟨[(2, .loc 0 0), (3, .loc 1 0), (5, .list 1 (d.map encI)), (6, .list 3 (S.map rowQ)), (7, .sl 2 g 0 R.length), (8, .int .i64 ((3 * k : Nat) : Int)), (9, .loc 3 0), (10, .int .i64 j)], [.flat false s.enc, .flat false p.enc, .rows false g 4 R, .flat false (row4 x v)], .non⟩,
    fun σ => (1000 - slotI 10 σ).toNat, rfl, ⟨rfl, rfl⟩, ⟨0, .ff, false, Nat.zero_le _, .inl ⟨rfl, rfl⟩, rfl, rfl⟩, ?_⟩
  rintro σ ⟨j, v, fo, hj, hfv, hfo, rfl⟩
  have hSlen : ((S.map rowQ).length : Int) = S.length := rowQ_len _
  refine ⟨fun h3 => ?_, fun h3 => ?_⟩
  · have h3 := of_decide_eq_true h3
    rw [hSlen] at h3
    have hj' : j < S.length := by omega
    obtain ⟨q, hq⟩ : ∃ q, S[j] = q := ⟨_, rfl⟩
    have hqy := hlt q (by rw [← hq]; exact List.getElem_mem hj')
    have hrow : (S.map rowQ)[((j : Int)).toNat]? = some (rowQ q) := by simp [hj', hq]
    have hst : S.take (j + 1) = S.take j ++ [q] := by rw [← hq]; exact List.take_succ_eq_append_getElem hj'
    have hnext : (S.take (j + 1)).any (fun q => s.inS d q.1 q.2.1 q.2.2 x) = (fo || s.inS d q.1 q.2.1 q.2.2 x) := by rw [hst, List.any_append, ← hfo]; simp
    have h41 := fun b => den17 s hv d hdf q.1 q.2.1 q.2.2 hqy ⟨x.place, x.tide, x.kind, b⟩ ⟨by show 0 ≤ x.tide ∧ x.tide < s.drifts.length; omega, by show 0 ≤ x.kind ∧ x.kind ≤ 1; omega, by show 0 ≤ x.place ∧ x.place ≤ 100; omega⟩
    have less : (1000 - ((j : Int) + 1)).toNat < (1000 - (j : Int)).toNat := by omega
    rcases hfv with ⟨rfl, rfl⟩ | ⟨rfl, rfl⟩ | rfl
    · refine Or.inl ⟨by kernel_rfl, ?_⟩
      refine ⟨by omega, _, hrow, ?_⟩
      refine ⟨_, rfl, _, h41 false, ?_⟩
      refine ⟨(j : Int) + 1, wrap64 (by omega) (by omega), ?_⟩
      exact ⟨⟨rfl, rfl⟩, ⟨j + 1, _, _, hj', .inr (.inr rfl), by rw [hnext]; rfl, rfl⟩, less⟩
    · refine Or.inl ⟨by kernel_rfl, ?_⟩
      refine ⟨(j : Int) + 1, wrap64 (by omega) (by omega), ?_⟩
      exact ⟨⟨rfl, rfl⟩, ⟨j + 1, .tt, true, hj', .inr (.inl ⟨rfl, rfl⟩), by rw [hnext]; rfl, rfl⟩, less⟩
    · refine Or.inl ⟨by kernel_rfl, ?_⟩
      refine ⟨fun h4 => ?_, fun h4 => ?_⟩
      · refine ⟨(j : Int) + 1, wrap64 (by omega) (by omega), ?_⟩
        exact ⟨⟨rfl, rfl⟩, ⟨j + 1, .tt, true, hj', .inr (.inl ⟨rfl, rfl⟩), by rw [hnext, h4]; rfl, rfl⟩, less⟩
      · refine ⟨by omega, _, hrow, ?_⟩
        refine ⟨_, rfl, _, h41 fo, ?_⟩
        refine ⟨(j : Int) + 1, wrap64 (by omega) (by omega), ?_⟩
        exact ⟨⟨rfl, rfl⟩, ⟨j + 1, _, _, hj', .inr (.inr rfl), by rw [hnext, h4]; rfl, rfl⟩, less⟩
  · have h3 := of_decide_eq_false h3
    rw [hSlen] at h3
    have hjS : j = S.length := by omega
    rw [hjS, List.take_length] at hfo
    have hfx : FV v x.found := by rw [hxf, ← hfo]; exact hfv
    rcases hfv with ⟨rfl, _⟩ | ⟨rfl, _⟩ | rfl
    all_goals
      refine ⟨trivial, iff' (by rw [beq_self]; rfl) ⟨rfl, ?_, _, rfl, ?_⟩⟩
      · show (R.length + 1) * 32 ≤ mostBytes; unfold mostBytes; omega
      refine ⟨((3 * (k + 1) : Nat) : Int), ?_, ?_⟩
      · rw [show ((3 * (k + 1) : Nat) : Int) = ((3 * k : Nat) : Int) + 3 by omega]
        exact wrap64 (by omega) (by omega)
      refine ⟨⟨rfl, rfl⟩, ⟨k + 1, g + 1, R ++ [row4 x _], by omega, by omega, by simp [hRl], ?_, rfl⟩, ?_⟩
      · rw [List.map_append, hR, hadd, List.map_append]
        show _ ++ [(row4 x _).map normB] = _
        rw [row4_norm hfx]; rfl
      · show (1000 - ((3 * (k + 1) : Nat) : Int)).toNat < (1000 - ((3 * k : Nat) : Int)).toNat
        omega

end Go.Proofs.Water
