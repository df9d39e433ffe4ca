/- A wider shore; the law's function WaterWider returns true; The law's function WaterWider returns true: the walk. No condition. -/
import Derived.Test.YtnedncdhnggooaaDoorPackWJ

namespace Go.Proofs.Water
open Go.V Go.Proofs

/-! ### A wider shore -/

def wideK (K T : Nat) : Nat → Nat
  | 0 => K
  | j + 1 => if (!(wideK K T j).testBit j && T.testBit j) = true then wideK K T j + 2 ^ j else wideK K T j
theorem wideK_or : ∀ K : Nat, K < 4 → ∀ T : Nat, T < 4 → wideK K T 2 = K ||| T := by decide +kernel
theorem wideK_lt : ∀ K : Nat, K < 4 → ∀ T : Nat, T < 4 → ∀ j : Nat, j < 3 → wideK K T j < 8 := by decide +kernel
def turn4 (xs : List Int) (i : Nat) : Nat := ((turnE xs i).tmod 4).toNat
def Sh.wideY (s : Sh) (xs : List Int) (i : Nat) : Yd := match s.yards[i]? with | some y => ⟨y.name, y.at', ((wideK y.kinds.toNat (turn4 xs i) 2 : Nat) : Int)⟩ | none => ⟨⟨#[]⟩, 0, 0⟩
def wideLow (xs : List Int) (b : Sp) (t : Nat) : Int := min (min ((turnE xs t).tmod 3) (6 - (b.hi - b.lo))) (b.lo + 10)
def wideB (xs : List Int) (b : Sp) (t : Nat) : Sp := ⟨b.lo - wideLow xs b t, min 10 (b.hi + min ((turnE xs ((t : Int) + 1)).tmod 3) (6 - (b.hi - b.lo) - wideLow xs b t))⟩
def Sh.wideD (s : Sh) (xs : List Int) (t : Nat) : Sp := match s.drifts[t]? with | some b => wideB xs b t | none => ⟨0, 0⟩
def Sh.wideYs (s : Sh) (xs : List Int) (k : Nat) : List Yd := (List.range k).map (s.wideY xs)
def Sh.wideDs (s : Sh) (xs : List Int) (k : Nat) : List Sp := (List.range k).map (s.wideD xs)
def Sh.wide (s : Sh) (xs : List Int) : Sh := ⟨s.wideYs xs s.yards.length, s.wideDs xs s.drifts.length, s.spread⟩
theorem wideYs_len (s : Sh) (xs : List Int) (k : Nat) : (s.wideYs xs k).length = k := by unfold Sh.wideYs; simp
theorem wideDs_len (s : Sh) (xs : List Int) (k : Nat) : (s.wideDs xs k).length = k := by unfold Sh.wideDs; simp
theorem wideYs_add (s : Sh) (xs : List Int) (k : Nat) : s.wideYs xs (k + 1) = s.wideYs xs k ++ [s.wideY xs k] := by unfold Sh.wideYs; rw [List.range_succ, List.map_append]; rfl
theorem wideDs_add (s : Sh) (xs : List Int) (k : Nat) : s.wideDs xs (k + 1) = s.wideDs xs k ++ [s.wideD xs k] := by unfold Sh.wideDs; rw [List.range_succ, List.map_append]; rfl

theorem turn4_lt {xs : List Int} (hxs : inL xs 65536) (i : Nat) : turn4 xs i < 4 ∧ (turnE xs i).tmod 4 = ((turn4 xs i : Nat) : Int) := by
  have h := tmod_range (turn_in hxs (by decide) (i : Int)).1 (k := 4) (by decide)
  unfold turn4
  omega
theorem low_in {xs : List Int} (hxs : inL xs 65536) {b : Sp} (hb : b.ok) (t : Nat) : 0 ≤ wideLow xs b t ∧ wideLow xs b t ≤ 6 - (b.hi - b.lo) ∧ wideLow xs b t ≤ b.lo + 10 := by
  have h := tmod_range (turn_in hxs (by decide) (t : Int)).1 (k := 3) (by decide)
  unfold Sp.ok at hb
  unfold wideLow
  omega
theorem wideB_ok {xs : List Int} (hxs : inL xs 65536) {b : Sp} (hb : b.ok) (t : Nat) : (wideB xs b t).ok ∧ (wideB xs b t).lo ≤ b.lo ∧ b.hi ≤ (wideB xs b t).hi := by
  have h := tmod_range (turn_in hxs (by decide) ((t : Int) + 1)).1 (k := 3) (by decide)
  have h2 := low_in hxs hb t
  unfold Sp.ok at hb ⊢
  unfold wideB
  simp only
  obtain ⟨L, hL⟩ : ∃ L, wideLow xs b t = L := ⟨_, rfl⟩
  obtain ⟨N, hN⟩ : ∃ N, (turnE xs ((t : Int) + 1)).tmod 3 = N := ⟨_, rfl⟩
  rw [hL] at h2 ⊢
  rw [hN] at h ⊢
  omega

section
variable {s : Sh} {xs : List Int}
theorem wide_get {i : Nat} (h : i < s.yards.length) : (s.wide xs).yards[i]? = some (s.wideY xs i) := by unfold Sh.wide Sh.wideYs; simp [h]
theorem wide_getD {i : Nat} (h : i < s.drifts.length) : (s.wide xs).drifts[i]? = some (s.wideD xs i) := by unfold Sh.wide Sh.wideDs; simp [h]
theorem wide_len (s : Sh) (xs : List Int) : (s.wide xs).yards.length = s.yards.length := wideYs_len _ _ _
theorem wide_lenD (s : Sh) (xs : List Int) : (s.wide xs).drifts.length = s.drifts.length := wideDs_len _ _ _
theorem wide_at (s : Sh) (xs : List Int) (i : Nat) : (s.wide xs).atY i = s.atY i := by
  unfold Sh.atY
  by_cases h : i < s.yards.length
  · rw [wide_get h, List.getElem?_eq_getElem h]
    unfold Sh.wideY
    rw [List.getElem?_eq_getElem h]
  · rw [List.getElem?_eq_none (by rw [wide_len]; omega), List.getElem?_eq_none (by omega)]
theorem wide_kinds (hv : s.Valid) (hxs : inL xs 65536) (i : Nat) (hi : i < s.yards.length) : (s.wide xs).kindsY i = s.kindsY i ||| turn4 xs i := by
  have hk := (kindsY_get hv hi).2
  unfold Sh.kindsY at hk ⊢
  rw [wide_get hi, List.getElem?_eq_getElem hi]
  rw [List.getElem?_eq_getElem hi] at hk
  unfold Sh.wideY
  rw [List.getElem?_eq_getElem hi]
  show ((wideK s.yards[i].kinds.toNat (turn4 xs i) 2 : Nat) : Int).toNat = _
  rw [Int.toNat_natCast]
  exact wideK_or _ hk _ (turn4_lt hxs i).1
theorem wide_in (s : Sh) (xs : List Int) (d : List Int) (y k t : Nat) (x : Smp) : (s.wide xs).inS d y k t x = s.inS d y k t x := by
  unfold Sh.inS
  rw [wide_at]
  rfl
theorem wide_all (s : Sh) (xs : List Int) : (s.wide xs).all = s.all := by unfold Sh.all; rw [wide_len]
theorem wide_spills (hv : s.Valid) (hxs : inL xs 65536) (m : Nat) (q : Q) (h : q ∈ s.spills m) : q ∈ (s.wide xs).spills m := by
  obtain ⟨h1, h2, h3⟩ := spills_iff.1 h
  refine spills_iff.2 ⟨by rw [wide_lenD, wide_len]; exact h1, h2, ?_⟩
  rw [wide_kinds hv hxs _ (spills_lt h), Nat.testBit_or, h3, Bool.true_or]
theorem wide_drs (hv : s.Valid) (hxs : inL xs 65536) {d : List Int} (h : d ∈ drs s.drifts) : d ∈ drs (s.wide xs).drifts := by
  obtain ⟨h1, h2⟩ := drs_mem h
  refine drs_in (by rw [wide_lenD]; exact h1) fun i b hb => ?_
  have hi : i < s.drifts.length := by rw [← wide_lenD s xs]; exact (List.getElem?_eq_some_iff.1 hb).1
  rw [wide_getD hi] at hb
  cases hb
  have h3 := h2 i s.drifts[i] (List.getElem?_eq_getElem hi)
  have hb := hv.d s.drifts[i] (List.getElem_mem hi)
  obtain ⟨_, h4, h5⟩ := wideB_ok hxs hb i
  unfold Sh.wideD
  rw [List.getElem?_eq_getElem hi]
  simp only
  omega
theorem wide_open {l : List Smp} (h : s.openE l = 0) (hxs : inL xs 65536) : (s.wide xs).openE l = 0 := by
  obtain ⟨hv, hn, hl, hx⟩ := (open_iff s l).1 h
  refine (open_iff _ l).2 ⟨⟨by rw [wide_len]; exact hv.yl, by rw [wide_lenD]; exact hv.dl, hv.sp, fun x hx => ?_, fun b hb => ?_⟩, ?_, hl, fun x hxl => ?_⟩
  · obtain ⟨i, hi⟩ := List.mem_iff_getElem?.1 hx
    have hil : i < s.yards.length := by rw [← wide_len s xs]; exact (List.getElem?_eq_some_iff.1 hi).1
    rw [wide_get hil] at hi
    cases hi
    have h1 := hv.y s.yards[i] (List.getElem_mem hil)
    have hk := (kindsY_get hv hil).2
    unfold Sh.kindsY at hk
    rw [List.getElem?_eq_getElem hil] at hk
    unfold Sh.wideY
    rw [List.getElem?_eq_getElem hil]
    refine ⟨h1.1, ?_⟩
    show 0 ≤ ((wideK s.yards[i].kinds.toNat (turn4 xs i) 2 : Nat) : Int) ∧ ((wideK s.yards[i].kinds.toNat (turn4 xs i) 2 : Nat) : Int) ≤ 3
    rw [wideK_or _ hk _ (turn4_lt hxs i).1]
    have := or_lt (n := 2) hk (turn4_lt hxs i).1
    omega
  · obtain ⟨i, hi⟩ := List.mem_iff_getElem?.1 hb
    have hil : i < s.drifts.length := by rw [← wide_lenD s xs]; exact (List.getElem?_eq_some_iff.1 hi).1
    rw [wide_getD hil] at hi
    cases hi
    have h1 := (wideB_ok hxs (hv.d s.drifts[i] (List.getElem_mem hil)) i).1
    unfold Sh.wideD
    rw [List.getElem?_eq_getElem hil]
    exact h1
  · have e : (s.wide xs).yards.map Yd.name = s.yards.map Yd.name := by
      apply List.ext_getElem?
      intro i
      rw [List.getElem?_map, List.getElem?_map]
      by_cases hi : i < s.yards.length
      · rw [wide_get hi, List.getElem?_eq_getElem hi]
        unfold Sh.wideY
        rw [List.getElem?_eq_getElem hi]
        rfl
      · rw [List.getElem?_eq_none (by rw [wide_len]; omega), List.getElem?_eq_none (by omega)]
    rw [e]; exact hn
  · have := hx x hxl
    unfold Sh.okX at this ⊢
    rw [wide_lenD]; exact this
theorem wide_tr (s : Sh) (xs : List Int) (d : List Int) (l : List Smp) : Tr s d l (s.wide xs) d l :=
  ⟨fun x hx hf => ⟨x, hx, hf, fun q _ h => by rw [wide_in]; exact h⟩, fun x hx hf => ⟨x, hx, hf, fun q _ h => by rw [wide_in] at h; exact h⟩⟩
theorem wide_expl (hv : s.Valid) (hxs : inL xs 65536) {l : List Smp} (hl : l.length ≤ 8) {m : Nat} (h : s.expl l m = true) : (s.wide xs).expl l m = true := by
  obtain ⟨d, hd, h1⟩ := (expl_iff hl m).1 h
  exact (expl_iff hl m).2 ⟨d, wide_drs hv hxs hd, (wide_tr s xs d l).expl (wide_spills hv hxs m) h1⟩
/-- No yard is taken from those that can be a source, and none is added to those that must be one. -/
theorem wide_src {l : List Smp} (h : s.openE l = 0) (hxs : inL xs 65536) : withinB (yardsZ (s.can l (fnd l))) (yardsZ ((s.wide xs).can l (fnd l))) = true ∧
    withinB ((s.wide xs).mustL l (s.wide xs).yards.length) (s.mustL l s.yards.length) = true := by
  have hok := ok_of h
  have hok' := ok_of (wide_open h hxs)
  constructor
  · rw [withinB_iff]
    intro z hz
    obtain ⟨y, hy, hb, rfl⟩ := yardsZ_mem.1 hz
    refine yardsZ_mem.2 ⟨y, hy, ?_, rfl⟩
    obtain ⟨d, hd, x, hx, hf, hc⟩ := (can_fnd hok.v hok.ll y).1 hb
    refine (can_fnd hok'.v hok.ll y).2 ⟨d, wide_drs hok.v hxs hd, x, hx, hf, ?_⟩
    exact (wide_tr s xs d l).canAt (fun q hq => by rw [wide_all]; exact wide_spills hok.v hxs _ q hq) (fun q _ h => by rw [wide_in]; exact h) hc
  · rw [withinB_iff]
    intro z hz
    obtain ⟨y, rfl, hy, he⟩ := mustL_nat hz
    rw [wide_len] at hy
    rw [wide_all] at he
    refine mustL_mem.2 ⟨hy, ?_⟩
    cases h1 : s.expl l (diff s.all (2 ^ y)) with
    | false => rfl
    | true => rw [wide_expl hok.v hxs hok.ll h1] at he; cases he
end

end Go.Proofs.Water

namespace Go.Proofs.Water
open Go.V Go.Proofs

set_option maxRecDepth 8000 in
set_option maxHeartbeats 8000000 in
theorem den14 (s : Sh) (l : List Smp) (xs : List Int) (hxs : inL xs 65536) : DN 14 [.agg s.enc, .list 4 (l.map Smp.enc), .list 1 (xs.map enc16)] (.bool true) := by
  refine mk Tryd.func14 Tryd.call14 rfl rfl ?_
  have eqs : ∀ n : Int, (n == n) = true := fun n => by simp
  have h43 := den43 s l
  by_cases ho : s.openE l = 0
  rotate_left
  · obtain ⟨e, he⟩ : ∃ e, s.openE l = e := ⟨_, rfl⟩
    rw [he] at h43 ho
    refine ⟨_, rfl, _, h43, ?_⟩
    refine ⟨fun _ => ⟨_, rfl, _, den22, rfl⟩, fun h => absurd (by simpa using h) ho⟩
  rw [ho] at h43
  have hok := ok_of ho
  have hv := hok.v
  have hyl := hv.yl
  have hdl := hv.dl
  refine ⟨_, rfl, _, h43, ?_⟩
  refine ⟨(fun h => absurd h (by decide)), fun _ => ?_⟩
  have hYA := wideYs_add s xs
  have hYL := wideYs_len s xs
  have hDA := wideDs_add s xs
  have hDL := wideDs_len s xs
  have hW : s.wide xs = ⟨s.wideYs xs s.yards.length, s.wideDs xs s.drifts.length, s.spread⟩ := rfl
  have hY0 : s.wideYs xs 0 = [] := rfl
  have hD0 : s.wideDs xs 0 = [] := rfl
  obtain ⟨WY, eWY⟩ : ∃ W, s.wideYs xs = W := ⟨_, rfl⟩
  obtain ⟨WD, eWD⟩ : ∃ W, s.wideDs xs = W := ⟨_, rfl⟩
  rw [eWY] at hYA hYL hW hY0
  rw [eWD] at hDA hDL hW hD0
  refine ⟨[1, 2, 3, 7, 8], 2, [(.cell 1 0, 3)], fun σ => ∃ (k g : Nat), k ≤ s.yards.length ∧
    σ = ⟨[(1, .list 4 (l.map Smp.enc)), (2, .list 1 (xs.map enc16)), (3, .loc 0 0), (7, .loc 1 0), (8, .int .i64 k)],
      [.flat false s.enc, .flat false [.sl 2 g 0 ((WY k).map Yd.enc).length, .nils, .int .i64 s.spread], .rows false g 3 ((WY k).map Yd.enc)], .non⟩,
    fun σ => (1000 - slotI 8 σ).toNat, rfl, ⟨rfl, rfl⟩, ⟨0, 0, Nat.zero_le _, by rw [hY0]; rfl⟩, ?_⟩
  rintro σ ⟨k, g, hk, rfl⟩
  refine ⟨fun h3 => ?_, fun h3 => ?_⟩
  · have h3 := of_decide_eq_true h3
    rw [yd_len] at h3
    have hk' : k < s.yards.length := by omega
    obtain ⟨y, hyk⟩ : ∃ y, s.yards[k] = y := ⟨_, rfl⟩
    have hrow : (s.yards.map Yd.enc)[((k : Int)).toNat]? = some (y.enc) := by simp [hk', hyk]
    have hget : s.yards[k]? = some y := by rw [List.getElem?_eq_getElem hk', hyk]
    have hyv := hv.y y (List.mem_of_getElem? hget)
    obtain ⟨K, hK⟩ : ∃ K : Nat, y.kinds = K := ⟨y.kinds.toNat, by omega⟩
    have hK4 : K < 4 := by omega
    obtain ⟨hT4, hTe⟩ := turn4_lt hxs k
    have hWY : s.wideY xs k = ⟨y.name, y.at', ((wideK K (turn4 xs k) 2 : Nat) : Int)⟩ := by
      unfold Sh.wideY
      rw [hget]
      show (⟨y.name, y.at', ((wideK y.kinds.toNat (turn4 xs k) 2 : Nat) : Int)⟩ : Yd) = _
      rw [hK]; rfl
    obtain ⟨T, eT⟩ : ∃ T, turn4 xs k = T := ⟨_, rfl⟩
    rw [eT] at hT4 hTe hWY
    have hye : y.enc = [.str y.name, .int .i64 y.at', .int .i64 ((wideK K T 0 : Nat) : Int)] := by unfold Yd.enc; rw [hK]; rfl
    rw [hye] at hrow
    have less : (1000 - ((k : Int) + 1)).toNat < (1000 - (k : Int)).toNat := by omega
    refine ⟨by omega, _, hrow, ?_⟩
    refine ⟨[1, 2, 3, 7, 8, 9, 10], 4, [], fun σ => ∃ (j : Nat), j ≤ 2 ∧
      σ = ⟨[(1, .list 4 (l.map Smp.enc)), (2, .list 1 (xs.map enc16)), (3, .loc 0 0), (7, .loc 1 0), (8, .int .i64 k), (9, .loc 3 0), (10, .int .i64 j)],
        [.flat false s.enc, .flat false [.sl 2 g 0 ((WY k).map Yd.enc).length, .nils, .int .i64 s.spread], .rows false g 3 ((WY k).map Yd.enc), .flat false [.str y.name, .int .i64 y.at', .int .i64 ((wideK K T j : Nat) : Int)]], .non⟩,
      fun σ => (1000 - slotI 10 σ).toNat, rfl, ⟨rfl, rfl⟩, ⟨0, by omega, rfl⟩, ?_⟩
    rintro σ ⟨j, hj, rfl⟩
    refine ⟨fun h4 => ?_, fun h4 => ?_⟩
    · have h4 : (j : Int) < 2 := of_decide_eq_true h4
      have hKl := wideK_lt K hK4 T hT4 j (by omega)
      have hstep : wideK K T (j + 1) = if (!(wideK K T j).testBit j && T.testBit j) = true then wideK K T j + 2 ^ j else wideK K T j := rfl
      have hp : 2 ^ j < 2 ^ 5 := Nat.pow_lt_pow_right (by decide) (by omega)
      have less2 : (1000 - ((j : Int) + 1)).toNat < (1000 - (j : Int)).toNat := by omega
      obtain ⟨A, eA⟩ : ∃ A, wideK K T j = A := ⟨_, rfl⟩
      rw [eA] at hKl hstep ⊢
      refine ⟨_, rfl, _, den46 A j (by omega) (by omega), ?_⟩
      refine ⟨fun h5 => ?_, fun h5 => ?_⟩
      · have h5 : A.testBit j = false := by
          have h5 : (!A.testBit j) = true := h5
          simpa using h5
        refine ⟨_, rfl, _, den48 xs k hxs (by omega), ?_⟩
        refine ⟨by decide, _, hTe, ?_⟩
        refine ⟨_, rfl, _, den46 T j (by omega) (by omega), ?_⟩
        refine ⟨fun h6 => ?_, fun h6 => ?_⟩
        · have h6 : T.testBit j = true := h6
          rw [h5, h6, if_pos (by rfl)] at hstep
          refine Or.inl ⟨by kernel_rfl, ?_⟩
          refine ⟨_, rfl, _, den50 j (by omega), ?_⟩
          refine ⟨((A + 2 ^ j : Nat) : Int), ?_, ?_⟩
          · rw [show ((A + 2 ^ j : Nat) : Int) = (A : Int) + ((2 ^ j : Nat) : Int) by omega]
            exact wrap64 (by omega) (by omega)
          refine ⟨(j : Int) + 1, wrap64 (by omega) (by omega), ?_⟩
          exact ⟨⟨rfl, rfl⟩, ⟨j + 1, by omega, by rw [hstep]; rfl⟩, less2⟩
        · have h6 : T.testBit j = false := h6
          rw [h5, h6, if_neg (by decide)] at hstep
          refine ⟨(j : Int) + 1, wrap64 (by omega) (by omega), ?_⟩
          exact ⟨⟨rfl, rfl⟩, ⟨j + 1, by omega, by rw [hstep]; rfl⟩, less2⟩
      · have h5 : A.testBit j = true := by
          have h5 : (!A.testBit j) = false := h5
          simpa using h5
        rw [h5, if_neg (by simp)] at hstep
        refine ⟨(j : Int) + 1, wrap64 (by omega) (by omega), ?_⟩
        exact ⟨⟨rfl, rfl⟩, ⟨j + 1, by omega, by rw [hstep]; rfl⟩, less2⟩
    · have h4 : ¬ (j : Int) < 2 := of_decide_eq_false h4
      have hj2 : j = 2 := by omega
      subst hj2
      have hcat : (WY k).map Yd.enc ++ [[D.str y.name, .int .i64 y.at', .int .i64 ((wideK K T 2 : Nat) : Int)]] = (WY (k + 1)).map Yd.enc := by
        rw [hYA, List.map_append, hWY]; rfl
      have hbb : (((WY k).map Yd.enc).length + 1) * 32 ≤ mostBytes := by rw [List.length_map, hYL]; unfold mostBytes; omega
      refine ⟨trivial, iff' (by rw [beq_self]; rfl) ⟨rfl, hbb, _, hcat, ?_⟩⟩
      refine ⟨(k : Int) + 1, wrap64 (by omega) (by omega), ?_⟩
      exact ⟨⟨rfl, rfl⟩, ⟨k + 1, g + 1, hk', rfl⟩, less⟩
  have h3 := of_decide_eq_false h3
  rw [yd_len] at h3
  have hk' : k = s.yards.length := by omega
  subst hk'
  refine ⟨[1, 2, 3, 7, 11], 3, [(.cell 1 1, 2)], fun σ => ∃ (t g2 : Nat), t ≤ s.drifts.length ∧
    σ = ⟨[(1, .list 4 (l.map Smp.enc)), (2, .list 1 (xs.map enc16)), (3, .loc 0 0), (7, .loc 1 0), (11, .int .i64 t)],
      [.flat false s.enc, .flat false [.sl 2 g 0 ((WY s.yards.length).map Yd.enc).length, .sl 3 g2 0 ((WD t).map Sp.enc).length, .int .i64 s.spread], .rows false g 3 ((WY s.yards.length).map Yd.enc), .rows false g2 2 ((WD t).map Sp.enc)], .non⟩,
    fun σ => (1000 - slotI 11 σ).toNat, rfl, ⟨rfl, rfl⟩, ⟨0, 0, Nat.zero_le _, by rw [hD0]; rfl⟩, ?_⟩
  rintro σ ⟨t, g2, ht, rfl⟩
  refine ⟨fun h4 => ?_, fun h4 => ?_⟩
  · have h4 := of_decide_eq_true h4
    rw [sp_len] at h4
    have ht' : t < s.drifts.length := by omega
    obtain ⟨b, hbt⟩ : ∃ b, s.drifts[t] = b := ⟨_, rfl⟩
    have hget : s.drifts[t]? = some b := by rw [List.getElem?_eq_getElem ht', hbt]
    have hrow : (s.drifts.map Sp.enc)[((t : Int)).toNat]? = some (b.enc) := by simp [ht', hbt]
    have hb := hv.d b (List.mem_of_getElem? hget)
    have hlow := low_in hxs hb t
    have hn1 := tmod_range (turn_in hxs (by decide) (t : Int)).1 (k := 3) (by decide)
    have hn2 := tmod_range (turn_in hxs (by decide) ((t : Int) + 1)).1 (k := 3) (by decide)
    have hWD : s.wideD xs t = wideB xs b t := by unfold Sh.wideD; rw [hget]
    have hBd : wideB xs b t = ⟨b.lo - wideLow xs b t, min 10 (b.hi + min ((turnE xs ((t : Int) + 1)).tmod 3) (6 - (b.hi - b.lo) - wideLow xs b t))⟩ := rfl
    have hLd : wideLow xs b t = min (min ((turnE xs t).tmod 3) (6 - (b.hi - b.lo))) (b.lo + 10) := rfl
    obtain ⟨L, eL⟩ : ∃ L, wideLow xs b t = L := ⟨_, rfl⟩
    obtain ⟨N1, eN1⟩ : ∃ N, (turnE xs t).tmod 3 = N := ⟨_, rfl⟩
    obtain ⟨N2, eN2⟩ : ∃ N, (turnE xs ((t : Int) + 1)).tmod 3 = N := ⟨_, rfl⟩
    rw [eL] at hlow hLd hBd
    rw [eN1] at hn1 hLd
    rw [eN2] at hn2 hBd
    subst hLd
    have less : (1000 - ((t : Int) + 1)).toNat < (1000 - (t : Int)).toNat := by omega
    have hbb : (((WD t).map Sp.enc).length + 1) * 16 ≤ mostBytes := by rw [List.length_map, hDL]; unfold mostBytes; omega
    refine ⟨by omega, _, hrow, ?_⟩
    refine ⟨b.hi - b.lo, wrap64 (by omega) (by omega), ?_⟩
    refine ⟨6 - (b.hi - b.lo), wrap64 (by omega) (by omega), ?_⟩
    refine Or.inl ⟨by kernel_rfl, ?_⟩
    refine ⟨_, rfl, _, den48 xs t hxs (by omega), ?_⟩
    refine ⟨by decide, N1, eN1, ?_⟩
    refine ⟨b.lo + 10, wrap64 (by omega) (by omega), ?_⟩
    refine Or.inl ⟨by kernel_rfl, ?_⟩
    refine ⟨b.lo - min (min N1 (6 - (b.hi - b.lo))) (b.lo + 10), wrap64 (by omega) (by omega), ?_⟩
    refine ⟨(t : Int) + 1, wrap64 (by omega) (by omega), ?_⟩
    refine ⟨_, rfl, _, den48 xs ((t : Int) + 1) hxs (by omega), ?_⟩
    refine ⟨by decide, N2, eN2, ?_⟩
    refine ⟨6 - (b.hi - b.lo) - min (min N1 (6 - (b.hi - b.lo))) (b.lo + 10), wrap64 (by omega) (by omega), ?_⟩
    refine ⟨b.hi + min N2 (6 - (b.hi - b.lo) - min (min N1 (6 - (b.hi - b.lo))) (b.lo + 10)), wrap64 (by omega) (by omega), ?_⟩
    refine ⟨_, rfl, _, den49 _ _, ?_⟩
    have hcat : (WD t).map Sp.enc ++ [[D.int .i64 (b.lo - min (min N1 (6 - (b.hi - b.lo))) (b.lo + 10)), .int .i64 (min 10 (b.hi + min N2 (6 - (b.hi - b.lo) - min (min N1 (6 - (b.hi - b.lo))) (b.lo + 10))))]] = (WD (t + 1)).map Sp.enc := by
      rw [hDA, List.map_append, hWD, hBd]; rfl
    refine ⟨trivial, iff' (by rw [beq_self]; rfl) ⟨rfl, hbb, _, hcat, ?_⟩⟩
    refine ⟨(t : Int) + 1, wrap64 (by omega) (by omega), ?_⟩
    exact ⟨⟨rfl, rfl⟩, ⟨t + 1, g2 + 1, ht', rfl⟩, less⟩
  have h4 := of_decide_eq_false h4
  rw [sp_len] at h4
  have ht' : t = s.drifts.length := by omega
  subst ht'
  have how := wide_open ho hxs
  have h23 := den23 s l
  have h25 := den25 s l
  have h23w := den23 (s.wide xs) l
  have h25w := den25 (s.wide xs) l
  obtain ⟨hsrc, hmst⟩ := wide_src ho hxs
  have hwe := fun m => wide_expl hv hxs hok.ll (m := m)
  have hS := fun h => sourcesR_ok (s := s) ho h
  have hM := fun h => mustR_ok (s := s) ho h
  have hSw := fun h => sourcesR_ok (s := s.wide xs) how h
  have hMw := fun h => mustR_ok (s := s.wide xs) how h
  have hewe := enter_open how
  have hSno := fun h => sourcesR_no (s := s.wide xs) (l := l) h
  have hMl := mustL_small hv l
  have hMlw := mustL_small (ok_of how).v l
  have hSlw := yardsZ_le ((s.wide xs).can l (fnd l))
  have hSl := yardsZ_le (s.can l (fnd l))
  have hall := wide_all s xs
  have hEnc : (s.wide xs).enc = [.list 3 ((WY s.yards.length).map Yd.enc), .list 2 ((WD s.drifts.length).map Sp.enc), .int .i64 s.spread] := by rw [hW]; rfl
  obtain ⟨X, eX⟩ : ∃ X, s.wide xs = X := ⟨_, rfl⟩
  rw [eX] at h23w h25w hsrc hmst hwe hSw hMw hewe hSno hMlw hSlw hall hEnc
  rw [hEnc] at h23w h25w
  cases hx : s.expl l s.all with
  | false =>
    have hent : s.enterE l = 9 := by rw [enter_open ho, hx]; rfl
    have e1 := listD_congr h23 (sourcesR_no (by rw [hent]; decide))
    have e2 := listD_congr h25 (mustR_no (by rw [hent]; decide))
    rw [hent] at e1 e2
    refine ⟨_, rfl, _, e1, ?_⟩
    cases hxw : X.expl l X.all with
    | false =>
      have hentw : X.enterE l = 9 := by rw [hewe, hxw]; rfl
      have e3 := listD_congr h23w (hSno (by rw [hentw]; decide))
      rw [hentw] at e3
      have e4 := h25w
      obtain ⟨⟨M, me⟩, hMe⟩ : ∃ m, X.mustR l = m := ⟨_, rfl⟩
      have e4 := listD_congr e4 hMe
      refine ⟨_, mapO_cons (reify_agg (mapO_cons (reify_sl rfl rfl) (mapO_cons (reify_sl rfl rfl) rfl))) (mapO_cons rfl rfl), _, e3, ?_⟩
      refine ⟨_, rfl, _, e2, ?_⟩
      refine ⟨_, mapO_cons (reify_agg (mapO_cons (reify_sl rfl rfl) (mapO_cons (reify_sl rfl rfl) rfl))) (mapO_cons rfl rfl), _, e4, ?_⟩
      refine ⟨fun _ => ?_, fun h => absurd h (by decide)⟩
      refine ⟨fun _ => ?_, fun h => absurd h (by decide)⟩
      refine ⟨fun _ => ?_, fun h => absurd h (by decide)⟩
      refine ⟨fun h => absurd h (by decide), fun _ => ?_⟩
      refine ⟨fun _ => ?_, fun h => absurd h (by decide)⟩
      exact ⟨_, rfl, _, den22, rfl⟩
    | true =>
      have e3 := listD_congr h23w (hSw hxw)
      have e4 := listD_congr h25w (hMw hxw)
      refine ⟨_, mapO_cons (reify_agg (mapO_cons (reify_sl rfl rfl) (mapO_cons (reify_sl rfl rfl) rfl))) (mapO_cons rfl rfl), _, e3, ?_⟩
      refine ⟨_, rfl, _, e2, ?_⟩
      refine ⟨_, mapO_cons (reify_agg (mapO_cons (reify_sl rfl rfl) (mapO_cons (reify_sl rfl rfl) rfl))) (mapO_cons rfl rfl), _, e4, ?_⟩
      refine ⟨fun _ => ?_, fun h => absurd h (by decide)⟩
      refine ⟨fun _ => ?_, fun h => absurd h (by decide)⟩
      refine ⟨fun _ => ?_, fun h => absurd h (by decide)⟩
      refine ⟨fun _ => ?_, fun h => absurd h (by decide)⟩
      exact ⟨_, rfl, _, den22, rfl⟩
  | true =>
    have hxw := hwe _ hx
    rw [← hall] at hxw
    have e1 := listD_congr h23 (hS hx)
    have e2 := listD_congr h25 (hM hx)
    have e3 := listD_congr h23w (hSw hxw)
    have e4 := listD_congr h25w (hMw hxw)
    obtain ⟨A1, a1⟩ : ∃ A, yardsZ (s.can l (fnd l)) = A := ⟨_, rfl⟩
    obtain ⟨A2, a2⟩ : ∃ A, s.mustL l s.yards.length = A := ⟨_, rfl⟩
    obtain ⟨A3, a3⟩ : ∃ A, yardsZ (X.can l (fnd l)) = A := ⟨_, rfl⟩
    obtain ⟨A4, a4⟩ : ∃ A, X.mustL l X.yards.length = A := ⟨_, rfl⟩
    rw [a1] at e1 hsrc hSl
    rw [a2] at e2 hmst hMl
    rw [a3] at e3 hsrc hSlw
    rw [a4] at e4 hmst hMlw
    have h42a := den42 A1 A3 (by omega) (by omega)
    have h42b := den42 A4 A2 (by omega) (by omega)
    rw [hsrc] at h42a
    rw [hmst] at h42b
    refine ⟨_, rfl, _, e1, ?_⟩
    refine ⟨_, mapO_cons (reify_agg (mapO_cons (reify_sl rfl rfl) (mapO_cons (reify_sl rfl rfl) rfl))) (mapO_cons rfl rfl), _, e3, ?_⟩
    refine ⟨_, rfl, _, e2, ?_⟩
    refine ⟨_, mapO_cons (reify_agg (mapO_cons (reify_sl rfl rfl) (mapO_cons (reify_sl rfl rfl) rfl))) (mapO_cons rfl rfl), _, e4, ?_⟩
    refine ⟨fun h => absurd h (by decide), fun _ => ?_⟩
    refine ⟨fun _ => ?_, fun h => absurd h (by decide)⟩
    refine ⟨fun _ => ?_, fun h => absurd h (by decide)⟩
    refine ⟨fun _ => ?_, fun h => absurd h (by decide)⟩
    refine ⟨_, rfl, _, h42a, ?_⟩
    refine ⟨fun _ => ?_, fun h => absurd h (by decide)⟩
    refine ⟨_, rfl, _, h42b, ?_⟩
    refine ⟨fun _ => ?_, fun h => absurd h (by decide)⟩
    exact ⟨_, rfl, _, den22, rfl⟩

end Go.Proofs.Water
