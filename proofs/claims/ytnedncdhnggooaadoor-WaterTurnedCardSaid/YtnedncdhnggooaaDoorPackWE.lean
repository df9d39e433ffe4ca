/- The law's helpers: the places but one; the drifts of a draw; The law's helpers: the drifts of a draw; The laws' arguments, opened. No condition. -/
import Derived.Test.YtnedncdhnggooaaDoorPackWD
import Derived.Test.YtnedncdhnggooaaDoorPackVM

namespace Go.Proofs.Water
open Go.V Go.Proofs

def othersL (k : Nat) (n : Int) : List Int := ((List.range k).map fun i : Nat => (i : Int)).filter fun i => i != n
theorem othersL_len (k : Nat) (n : Int) : (othersL k n).length ≤ k := by
  unfold othersL
  refine Nat.le_trans (List.length_filter_le _ _) ?_
  simp
theorem othersL_add {k : Nat} {n : Int} (h : ((k : Int) != n) = true) : othersL (k + 1) n = othersL k n ++ [(k : Int)] := by
  unfold othersL
  rw [List.range_succ, List.map_append, List.filter_append]
  simp at h ⊢
  simp [h]
theorem othersL_skip {k : Nat} {n : Int} (h : ((k : Int) != n) = false) : othersL (k + 1) n = othersL k n := by
  unfold othersL
  rw [List.range_succ, List.map_append, List.filter_append]
  simp at h ⊢
  simp [h]

theorem den45 (s : Sh) (n : Int) (hy : s.yards.length ≤ 5) : DN 45 [.agg s.enc, .int .i64 n] (.list 1 ((othersL s.yards.length n).map encI)) := by
  refine mk Tryd.func45 Tryd.call45 rfl rfl ?_
  refine ⟨[1, 2, 5, 6], 1, [(.slot 5, 1)], fun σ => ∃ (k g : Nat), k ≤ s.yards.length ∧
    σ = ⟨[(1, .int .i64 n), (2, .loc 0 0), (5, .sl 1 g 0 ((othersL k n).map encI).length), (6, .int .i64 k)], [.flat false s.enc, .rows false g 1 ((othersL k n).map encI)], .non⟩,
    fun σ => (1000 - slotI 6 σ).toNat, rfl, ⟨rfl, rfl⟩, ⟨0, 0, Nat.zero_le _, rfl⟩, ?_⟩
  rintro σ ⟨k, g, hk, rfl⟩
  have hml := othersL_len k n
  refine ⟨fun h3 => ?_, fun h3 => ?_⟩
  · have h3 := of_decide_eq_true h3
    rw [yd_len] at h3
    have hk' : k + 1 ≤ s.yards.length := by omega
    have less : (1000 - ((k : Int) + 1)).toNat < (1000 - (k : Int)).toNat := by omega
    refine ⟨fun h4 => ?_, fun h4 => ?_⟩
    · have hcat : (othersL k n).map encI ++ [[D.int .i64 k]] = (othersL (k + 1) n).map encI := by rw [othersL_add h4]; simp [encI]
      refine ⟨trivial, iff' (by rw [beq_self]; rfl) ⟨rfl, ?_, _, hcat, ?_⟩⟩
      · rw [encI_len]; show (_ + 1) * 8 ≤ mostBytes; unfold mostBytes; omega
      refine ⟨(k : Int) + 1, wrap64 (by omega) (by omega), ?_⟩
      exact ⟨⟨rfl, rfl⟩, ⟨k + 1, g + 1, hk', rfl⟩, less⟩
    · refine ⟨(k : Int) + 1, wrap64 (by omega) (by omega), ?_⟩
      exact ⟨⟨rfl, rfl⟩, ⟨k + 1, g, hk', by rw [othersL_skip h4]; rfl⟩, less⟩
  · have h3 := of_decide_eq_false h3
    rw [yd_len] at h3
    have hk' : k = s.yards.length := by omega
    rw [← hk']
    show reify [.flat false s.enc, .rows false g 1 ((othersL k n).map encI)] 8 (.sl 1 g 0 ((othersL k n).map encI).length) = _
    exact reify_sl rfl rfl

end Go.Proofs.Water

namespace Go.Proofs.Water
open Go.V Go.Proofs

def driftedF (s : Sh) (ds : List Int) (k : Nat) : List Int := (List.range k).map fun i : Nat => match s.drifts[i]? with | some x => amongE x (turnE ds i) | none => 0
theorem driftedF_len (s : Sh) (ds : List Int) (k : Nat) : (driftedF s ds k).length = k := by unfold driftedF; simp
theorem driftedF_add (s : Sh) (ds : List Int) (k : Nat) (h : k < s.drifts.length) : driftedF s ds (k + 1) = driftedF s ds k ++ [amongE s.drifts[k] (turnE ds k)] := by
  unfold driftedF; rw [List.range_succ, List.map_append]; simp [h]

/-- A truth, by turns. -/
structure Past where
  drifts : List Int
  spills : Nat
  taken : List Int
def Past.enc (p : Past) : List D := [.list 1 (p.drifts.map enc16), .int .u32 p.spills, .list 1 (p.taken.map enc16)]
structure Past.Ok (p : Past) : Prop where
  d : inL p.drifts 65536
  s : p.spills < 2 ^ 32
  t : inL p.taken 65536

theorem den38 (s : Sh) (hv : s.Valid) (p : Past) (hp : p.Ok) : DN 38 [.agg s.enc, .agg p.enc] (.list 1 ((driftedF s p.drifts s.drifts.length).map encI)) := by
  refine mk Tryd.func38 Tryd.call38 rfl rfl ?_
  have hdl := hv.dl
  refine ⟨[2, 3, 5, 6], 2, [(.slot 5, 1)], fun σ => ∃ (k g : Nat), k ≤ s.drifts.length ∧
    σ = ⟨[(2, .loc 0 0), (3, .loc 1 0), (5, .sl 2 g 0 ((driftedF s p.drifts k).map encI).length), (6, .int .i64 k)], [.flat false s.enc, .flat false p.enc, .rows false g 1 ((driftedF s p.drifts k).map encI)], .non⟩,
    fun σ => (1000 - slotI 6 σ).toNat, rfl, ⟨rfl, rfl⟩, ⟨0, 0, Nat.zero_le _, rfl⟩, ?_⟩
  rintro σ ⟨k, g, hk, rfl⟩
  have hml := driftedF_len s p.drifts k
  refine ⟨fun h3 => ?_, fun h3 => ?_⟩
  · have h3 := of_decide_eq_true h3
    rw [sp_len] at h3
    have hk' : k < s.drifts.length := by omega
    obtain ⟨x, hx⟩ : ∃ x, s.drifts[k] = x := ⟨_, rfl⟩
    have hrow : (s.drifts.map Sp.enc)[((k : Int)).toNat]? = some (x.enc) := by simp [hk', hx]
    have hb := hv.d x (by rw [← hx]; exact List.getElem_mem hk')
    have ht := turn_in hp.d (by decide) (k : Int)
    have hadd := driftedF_add s p.drifts k hk'
    rw [hx] at hadd
    have hcat : (driftedF s p.drifts k).map encI ++ [[D.int .i64 (amongE x (turnE p.drifts k))]] = (driftedF s p.drifts (k + 1)).map encI := by rw [hadd]; simp [encI]
    refine Or.inl ⟨by kernel_rfl, ?_⟩
    refine ⟨by omega, _, hrow, ?_⟩
    refine ⟨_, rfl, _, den48 p.drifts k hp.d (by omega), ?_⟩
    refine ⟨_, rfl, _, den74 x (turnE p.drifts k) hb.2.1 (by omega) ht.1, ?_⟩
    refine ⟨trivial, iff' (by rw [beq_self]; rfl) ⟨rfl, ?_, _, hcat, ?_⟩⟩
    · rw [encI_len, hml]; show (k + 1) * 8 ≤ mostBytes; unfold mostBytes; omega
    refine ⟨(k : Int) + 1, wrap64 (by omega) (by omega), ?_⟩
    exact ⟨⟨rfl, rfl⟩, ⟨k + 1, g + 1, hk', rfl⟩, by show (1000 - ((k : Int) + 1)).toNat < (1000 - (k : Int)).toNat; omega⟩
  · have h3 := of_decide_eq_false h3
    rw [sp_len] at h3
    have hk' : k = s.drifts.length := by omega
    rw [← hk']
    show reify [.flat false s.enc, .flat false p.enc, .rows false g 1 ((driftedF s p.drifts k).map encI)] 8 (.sl 2 g 0 ((driftedF s p.drifts k).map encI).length) = _
    exact reify_sl rfl rfl

end Go.Proofs.Water

namespace Go.Proofs.Water
open Go.V Go.Proofs

theorem cells82 : Tryd.prog.cellsOf 82 = 3 := by kernel_rfl
theorem cells84 : Tryd.prog.cellsOf 84 = 2 := by kernel_rfl
theorem cells46 : Tryd.prog.cellsOf 46 = 4 := by kernel_rfl
theorem cells3 : Tryd.prog.cellsOf 3 = 1 := by kernel_rfl
theorem cells5 : Tryd.prog.cellsOf 5 = 1 := by kernel_rfl
theorem cells110 : Tryd.prog.cellsOf 110 = 1 := by kernel_rfl

set_option maxRecDepth 100000 in
theorem yd_of {n : Nat} {ds : List D} (h : WT Tryd.prog (n + 2) 82 ds) : ∃ y : Yd, ds = y.enc := by
  obtain ⟨a, r, rfl, _, ha, b, r2, rfl, _, hb, c, r3, rfl, _, hc, rfl⟩ := wt_struct Tryd.underlying82 h
  obtain ⟨s, rfl, _⟩ := wt_string Tryd.underlying9 ha
  obtain ⟨x, rfl, _⟩ := wt_int Tryd.underlying3 hb
  obtain ⟨y, rfl, _⟩ := wt_int Tryd.underlying3 hc
  exact ⟨⟨s, x, y⟩, rfl⟩
set_option maxRecDepth 100000 in
theorem sp_of {n : Nat} {ds : List D} (h : WT Tryd.prog (n + 2) 84 ds) : ∃ y : Sp, ds = y.enc := by
  obtain ⟨b, r2, rfl, _, hb, c, r3, rfl, _, hc, rfl⟩ := wt_struct Tryd.underlying84 h
  obtain ⟨x, rfl, _⟩ := wt_int Tryd.underlying3 hb
  obtain ⟨y, rfl, _⟩ := wt_int Tryd.underlying3 hc
  exact ⟨⟨x, y⟩, rfl⟩
set_option maxRecDepth 100000 in
theorem smp_of {n : Nat} {ds : List D} (h : WT Tryd.prog (n + 2) 46 ds) : ∃ y : Smp, ds = y.enc := by
  obtain ⟨a, r, rfl, _, ha, b, r2, rfl, _, hb, c, r3, rfl, _, hc, e, r4, rfl, _, he, rfl⟩ := wt_struct Tryd.underlying46 h
  obtain ⟨x, rfl, _⟩ := wt_int Tryd.underlying3 ha
  obtain ⟨y, rfl, _⟩ := wt_int Tryd.underlying3 hb
  obtain ⟨z, rfl, _⟩ := wt_int Tryd.underlying3 hc
  obtain ⟨f, rfl⟩ := wt_bool Tryd.underlying4 he
  exact ⟨⟨x, y, z, f⟩, rfl⟩
set_option maxRecDepth 100000 in
theorem shore_of {n : Nat} {d : D} (h : WA Tryd.prog (n + 5) 25 d) : ∃ s : Sh, d = .agg s.enc ∧ s.yards.length ≤ maxLen ∧ s.drifts.length ≤ maxLen := by
  obtain ⟨ds, rfl, g⟩ := wa_struct Tryd.underlying25 h
  obtain ⟨a, r, rfl, _, ha, c, r2, rfl, _, hc, e, r3, rfl, _, he, rfl⟩ := wt_struct Tryd.underlying25 g
  obtain ⟨rows, rfl, hl, hr⟩ := wt_slice Tryd.underlying22 ha
  obtain ⟨rows', rfl, hl', hr'⟩ := wt_slice Tryd.underlying23 hc
  obtain ⟨s3, rfl, _⟩ := wt_int Tryd.underlying3 he
  rw [cells82, cells84]
  obtain ⟨l, rfl, _⟩ := rows_map (enc := Yd.enc) (p := fun _ => True) fun row hrow => by
    obtain ⟨t, ht⟩ := yd_of (hr row hrow).2
    exact ⟨t, ht, trivial⟩
  obtain ⟨l', rfl, _⟩ := rows_map (enc := Sp.enc) (p := fun _ => True) fun row hrow => by
    obtain ⟨t, ht⟩ := sp_of (hr' row hrow).2
    exact ⟨t, ht, trivial⟩
  exact ⟨⟨l, l', s3⟩, rfl, by simpa using hl, by simpa using hl'⟩
set_option maxRecDepth 100000 in
theorem smps_of {n : Nat} {d : D} (h : WA Tryd.prog (n + 5) 26 d) : ∃ l : List Smp, d = .list 4 (l.map Smp.enc) ∧ l.length ≤ maxLen := by
  obtain ⟨rows, rfl, hl, hr⟩ := wa_slice Tryd.underlying26 h
  rw [cells46]
  obtain ⟨l, rfl, _⟩ := rows_map (enc := Smp.enc) (p := fun _ => True) fun row hrow => by
    obtain ⟨t, ht⟩ := smp_of (hr row hrow).2
    exact ⟨t, ht, trivial⟩
  exact ⟨l, rfl, by simpa using hl⟩
theorem u16_of {m : Int} (h : (Lit.int .u16 m).wf = true) : 0 ≤ m ∧ m < 65536 := by
  have h1 : decide (IntKind.u16.min ≤ m) = true ∧ decide (m ≤ IntKind.u16.max) = true := by simpa only [Lit.wf, Bool.and_eq_true] using h
  rw [decide_eq_true_eq, decide_eq_true_eq] at h1
  have e1 : IntKind.u16.min = 0 := by decide
  have e2 : IntKind.u16.max = 65535 := by decide
  rw [e1, e2] at h1
  omega
theorem u8_of {m : Int} (h : (Lit.int .u8 m).wf = true) : 0 ≤ m ∧ m < 256 := by
  have h1 : decide (IntKind.u8.min ≤ m) = true ∧ decide (m ≤ IntKind.u8.max) = true := by simpa only [Lit.wf, Bool.and_eq_true] using h
  rw [decide_eq_true_eq, decide_eq_true_eq] at h1
  have e1 : IntKind.u8.min = 0 := by decide
  have e2 : IntKind.u8.max = 255 := by decide
  rw [e1, e2] at h1
  omega
theorem u32_of {m : Int} (h : (Lit.int .u32 m).wf = true) : 0 ≤ m ∧ m < 4294967296 := by
  have h1 : decide (IntKind.u32.min ≤ m) = true ∧ decide (m ≤ IntKind.u32.max) = true := by simpa only [Lit.wf, Bool.and_eq_true] using h
  rw [decide_eq_true_eq, decide_eq_true_eq] at h1
  have e1 : IntKind.u32.min = 0 := by decide
  have e2 : IntKind.u32.max = 4294967295 := by decide
  rw [e1, e2] at h1
  omega

theorem Tryd.own : ownKnob Tryd.prog.godebug = none := by kernel_rfl
theorem Tryd.laidOut : laidOutB Tryd.prog = true := by kernel_rfl

end Go.Proofs.Water
