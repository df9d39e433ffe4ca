/- The law's function TopDrained returns true: the walk. No condition. -/
import Derived.Test.YtdhdeopenednaaaGreatDoorPackXF
import Derived.Test.YtdhdeopenednaaaGreatDoorPackXK
import Derived.Test.YtdhdeopenednaaaGreatDoorPackXJ

namespace Go.Proofs.Top
open Go.V Go.Proofs

def runEnc (w : Water.Sh) (x : Nat) (y : Int) (xs : List Int) (p : Water.Past) : List D := w.enc ++ ([.int .u8 x, .int .u8 y, Tide.u16s xs] ++ p.enc)

theorem mem_next {l : List Int} {i : Int} {k : Nat} (hk : k < l.length) {does : Bool} (h : does = true) (hd : does = decide (i ∈ l.take k)) : true = decide (i ∈ l.take (k + 1)) := by
  subst h
  have hd := of_decide_eq_true hd.symm
  rw [List.take_succ_eq_append_getElem hk]
  exact (decide_eq_true (List.mem_append_left _ hd)).symm
theorem mem_here {l : List Int} {i : Int} {k : Nat} (hk : k < l.length) {does : Bool} (h : does = false) (hd : does = decide (i ∈ l.take k)) : (l[k] == i) = decide (i ∈ l.take (k + 1)) := by
  subst h
  have hd := of_decide_eq_false hd.symm
  rw [List.take_succ_eq_append_getElem hk, Bool.eq_iff_iff, decide_eq_true_iff, List.mem_append, beq_iff_eq]
  constructor
  · intro e; right; simp [e]
  · rintro (e | e)
    · exact absurd e hd
    · exact (List.mem_singleton.1 e).symm

theorem card_one : ∀ n : Nat, n < 5 → Water.card (2 ^ n) ≤ 1 := by decide +kernel

/-- The boxes that the call has made. -/
abbrev boxesD (b : Tide.Be) (s : Tide.Sh) (w : Water.Sh) (x : Nat) (y : Int) (xs : List Int) (p : Water.Past) (lo hi : Int) (rows : List (List D)) (m : Int) : List Box :=
  [.flat false b.enc, .flat false s.enc, .flat false (runEnc w x y xs p), .flat false [.int .i64 lo, .int .i64 hi],
   .flat false [.sl 6 1 0 rows.length, .list 2 (w.drifts.map Water.Sp.enc), .int .i64 w.spread], .rows false 0 3 [], .rows true 1 3 rows,
   .rows false 0 3 [[.str "ashore".toUTF8, .int .i64 m, .int .i64 3]], .flat false p.enc]

set_option maxRecDepth 8000 in
set_option maxHeartbeats 8000000 in
theorem den3 (b : Tide.Be) (s : Tide.Sh) (w : Water.Sh) (x : Nat) (y : Int) (xs : List Int) (p : Water.Past) (hx1 : x ≤ 255) (hy0 : 0 ≤ y) (hy1 : y ≤ 255) (hxs : ∀ x ∈ xs, 0 ≤ x ∧ x ≤ 65535) (hxl : xs.length ≤ 9223372036854775807) (hp : p.Ok) :
    DN 3 [.agg b.enc, .agg s.enc, .agg (runEnc w x y xs p)] (.bool true) := by
  refine mk Tryz.func3 Tryz.call3 rfl rfl ?_
  have h4 := Tide.den4 b s
  have h5 := Water.den5 w
  obtain ⟨⟨c1, c2, ce⟩, hce⟩ : ∃ a, Tide.checkR b s = a := ⟨_, rfl⟩
  obtain ⟨⟨d1, d2, de⟩, hde⟩ : ∃ a, w.check = a := ⟨_, rfl⟩
  rw [hce] at h4
  rw [hde] at h5
  have h4 : DN 4 [.agg b.enc, .agg s.enc] (.tup [.int .i64 c1, .int .i64 c2, .int .i64 ce]) := h4
  have h5 : DN 5 [.agg w.enc] (.tup [.int .i64 d1, .int .i64 d2, .int .i64 de]) := h5
  refine ⟨_, rfl, _, h4, ?_⟩
  refine ⟨_, rfl, _, h5, ?_⟩
  by_cases hc : ce = 0
  rotate_left
  · refine ⟨fun h => ?_, fun h => absurd (by simpa using h) hc⟩
    refine ⟨_, rfl, _, Tide.den6, ?_⟩
    refine ⟨fun _ => ?_, fun h => absurd h (by decide)⟩
    exact ⟨_, rfl, _, Water.den7, rfl⟩
  subst hc
  refine ⟨fun h => absurd h (by decide), fun _ => ?_⟩
  by_cases hd : de = 0
  rotate_left
  · refine ⟨fun h => ?_, fun h => absurd (by simpa using h) hd⟩
    refine ⟨_, rfl, _, Tide.den6, ?_⟩
    refine ⟨fun _ => ?_, fun h => absurd h (by decide)⟩
    exact ⟨_, rfl, _, Water.den7, rfl⟩
  subst hd
  refine ⟨fun h => absurd h (by decide), fun _ => ?_⟩
  have hyl := Water.yd_len w.yards
  by_cases hy5 : w.yards.length = 5
  · refine ⟨fun h => ?_, fun h => absurd (show (((w.yards.map Water.Yd.enc).length : Int) == 5) = false from h) (by rw [hyl, hy5]; decide)⟩
    refine ⟨_, rfl, _, Tide.den6, ?_⟩
    refine ⟨fun _ => ?_, fun h => absurd h (by decide)⟩
    exact ⟨_, rfl, _, Water.den7, rfl⟩
  refine ⟨fun h => absurd (show (((w.yards.map Water.Yd.enc).length : Int) == 5) = true from h) (by rw [hyl]; simp; omega), fun _ => ?_⟩
  have hc : (Tide.checkR b s).2.2 = 0 := by rw [hce]
  have hok := Tide.ok_of hc
  have hn0 := hok.n0
  have hn12 := hok.n1
  have hlen : ((b.tides.map Tide.Ti.enc).length : Int) = b.tides.length := by rw [List.length_map]
  obtain ⟨i, ei⟩ : ∃ i, x % b.tides.length = i := ⟨_, rfl⟩
  have hmi : ((x : Nat) : Int).tmod ((b.tides.map Tide.Ti.enc).length : Int) = (i : Int) := by rw [hlen, ← ei]; rfl
  have hi : i < b.tides.length := by rw [← ei]; exact Nat.mod_lt _ hn0
  obtain ⟨n, en⟩ : ∃ n, y % 41 = n := ⟨_, rfl⟩
  have hmn : y.tmod 41 = n := by rw [Int.tmod_eq_emod_of_nonneg hy0, en]
  have hk0 : 0 ≤ n := by omega
  have hk1 : n ≤ 40 := by omega
  have hw := hok.weight hk0 hk1
  have hsl : 0 < (Tide.boxOf b s b.tides[i]).slope.lo := by have := hok.slope.1; simp only [Tide.boxOf]; omega
  have htr := hok.truth_of i hi xs
  have hts := hok.of_small i hi htr
  have hat := Tide.at_in htr hsl s.sink n
  have h9 := Tide.den9 b s hok i hi xs hxs hxl
  have h10 := Tide.den10 b s i n
  rw [Tide.stops_ok hc i hi hk0 hk1] at h10
  obtain ⟨tr, etr⟩ : ∃ t, Tide.truthR b s i xs = t := ⟨_, rfl⟩
  rw [etr] at hts hat h9
  have h8 := Tide.den8 s tr hts n 0 (by decide) (by decide) hw.1 hw.2
  obtain ⟨⟨lo, hi'⟩, eR⟩ : ∃ r, Tide.reachR s.sink (Tide.boxOf b s b.tides[i]) n 0 = r := ⟨_, rfl⟩
  obtain ⟨A, eA⟩ : ∃ a, Tide.atR s.sink tr n 0 = a := ⟨_, rfl⟩
  rw [eR] at h10
  rw [eA] at h8
  rw [eR, eA] at hat
  refine Or.inl ⟨by kernel_rfl, ?_⟩
  refine ⟨_, wrap64 (n := x) (by omega) (by omega), ?_⟩
  refine ⟨by rw [hlen]; omega, _, hmi, ?_⟩
  refine ⟨_, wrap64 (n := y) (by omega) (by omega), ?_⟩
  refine ⟨by decide, _, hmn, ?_⟩
  refine Or.inl ⟨by kernel_rfl, ?_⟩
  refine ⟨_, rfl, _, h9, ?_⟩
  refine ⟨_, rfl, _, h8, ?_⟩
  have h10 : DN 10 [.agg b.enc, .agg s.enc, .int .i64 i, .int .i64 n] (.tup [.agg [.int .i64 lo, .int .i64 hi'], .int .i64 0]) := h10
  refine ⟨_, rfl, _, h10, ?_⟩
  refine ⟨fun h => absurd h (by decide), fun _ => ?_⟩
  refine ⟨fun h => absurd (show A < lo from of_decide_eq_true h) (by have := hat.1; show ¬ A < lo; exact Int.not_lt.2 this), fun _ => ?_⟩
  refine ⟨fun h => absurd (show A > hi' from of_decide_eq_true h) (by have := hat.2; show ¬ A > hi'; exact Int.not_lt.2 this), fun _ => ?_⟩
  have hyl4 : w.yards.length ≤ 4 := by
    have h1 : w.err0 = 0 := by show w.check.2.2 = 0; rw [hde]
    have h2 := ((Water.err0_iff w).1 h1).1.yl
    omega
  have hb1 : (w.yards.map Water.Yd.enc).length * 32 ≤ mostBytes := by rw [List.length_map]; unfold mostBytes; omega
  have hb2 : ((w.yards.map Water.Yd.enc).length + 1) * 32 ≤ mostBytes := by rw [List.length_map]; unfold mostBytes; omega
  obtain ⟨q, hq⟩ : ∃ q, A.tdiv 10000 = q := ⟨_, rfl⟩
  have hA : -10000000000 ≤ A ∧ A ≤ 10000000000 := by
    obtain ⟨a1, a2, a3, a4, a5, a6, a7, a8⟩ := hts
    have hm := hw.1
    have hm2 := hw.2
    rw [← eA]
    unfold Tide.atR
    obtain ⟨k, ek⟩ : ∃ k, s.sink * n = k := ⟨_, rfl⟩
    rw [ek] at hm hm2 ⊢
    obtain ⟨N, eN⟩ : ∃ N, 1000 * (tr.height + tr.wind + 0 - tr.draft - k) = N := ⟨_, rfl⟩
    rw [eN]
    have h := Int.natAbs_ediv_le_natAbs N tr.slope
    omega
  have hqb := Tide.tdiv_bound A 10000
  rw [hq] at hqb
  obtain ⟨w', ew⟩ : ∃ w' : Water.Sh, (⟨w.yards ++ [⟨ "ashore".toUTF8, max 0 (min 100 q), 3⟩], w.drifts, w.spread⟩ : Water.Sh) = w' := ⟨_, rfl⟩
  have hcat : w.yards.map Water.Yd.enc ++ [[D.str "ashore".toUTF8, .int .i64 (max 0 (min 100 q)), .int .i64 3]] = w'.yards.map Water.Yd.enc := by rw [← ew]; simp [Water.Yd.enc]
  refine ⟨trivial, hb1, ?_⟩
  refine ⟨by decide, q, by rw [hq]; exact wrap64 (by omega) (by omega), ?_⟩
  refine ⟨trivial, iff' (by rw [beq_self]; rfl) ⟨rfl, hb2, _, hcat, ?_⟩⟩
  have henc : w'.enc = [.list 3 (w'.yards.map Water.Yd.enc), .list 2 (w.drifts.map Water.Sp.enc), .int .i64 w.spread] := by rw [← ew]; rfl
  have h5' := Water.den5 w'
  obtain ⟨⟨f1, f2, fe⟩, hfe⟩ : ∃ a, w'.check = a := ⟨_, rfl⟩
  rw [hfe] at h5'
  have h5' : DN 5 [.agg w'.enc] (.tup [.int .i64 f1, .int .i64 f2, .int .i64 fe]) := h5'
  rw [henc] at h5'
  have hwl : w'.yards.length = w.yards.length + 1 := by rw [← ew]; simp
  refine ⟨_, mapO_cons (reify_agg (mapO_cons (reify_sl rfl rfl) rfl)) rfl, _, h5', ?_⟩
  by_cases hf : fe = 0
  rotate_left
  · refine ⟨fun h => ?_, fun h => absurd (by simpa using h) hf⟩
    refine ⟨_, rfl, _, Tide.den6, ?_⟩
    refine ⟨fun _ => ?_, fun h => absurd h (by decide)⟩
    exact ⟨_, rfl, _, Water.den7, rfl⟩
  subst hf
  refine ⟨fun h => absurd h (by decide), fun _ => ?_⟩
  have h0 : w'.err0 = 0 := by show w'.check.2.2 = 0; rw [hfe]
  obtain ⟨hv, _⟩ := (Water.err0_iff w').1 h0
  have hyl5 := hv.yl
  have ho := Water.told_open h0 hp
  have hok' := Water.ok_of ho
  have hdd := Water.drifted_drf hv hp
  have hdf := Water.drf_of hv hdd
  have h11 := Water.den11 w' hv p hp
  have h12 := Water.den12 w' hv p hp
  have h13 := Water.den13 w' hv p hp
  have hlt := fun q hq => Water.spilled_lt (s := w') (n := p.spills) (q := q) hq
  have hSl : (w'.spilled p.spills).length ≤ 30 := Nat.le_trans (Water.pickF_len _ _ _) (Water.spills_len hv _)
  have hE := fun m => Water.told_expl (s := w') (p := p) (m := m)
  have hC := fun q hq x => Water.told_can (s := w') (p := p) (q := q) hq (x := x)
  obtain ⟨L, eL⟩ : ∃ L, w'.told p = L := ⟨_, rfl⟩
  obtain ⟨d, ed⟩ : ∃ d, Water.driftedF w' p.drifts w'.drifts.length = d := ⟨_, rfl⟩
  obtain ⟨S, eS⟩ : ∃ S, w'.spilled p.spills = S := ⟨_, rfl⟩
  rw [eL] at ho hok' h11 hE hC
  rw [ed] at hdd hdf h12 hE hC
  rw [eS] at h13 hlt hSl hE hC
  have hx : w'.expl L w'.all = true := (Water.expl_iff hok'.ll _).2 ⟨d, hdd, hE w'.all fun q hq => by rw [Water.all_bit]; exact decide_eq_true (hlt q hq)⟩
  have h14 : DN 14 [.agg w'.enc, .list 4 (L.map Water.Smp.enc)] (.tup [.bool true, .int .i64 0]) := by
    have := Water.agree_open ho
    rw [hx] at this
    exact Water.agreeD_congr (Water.den14 w' L) this
  have h15 := Water.listD_congr (Water.den15 w' L) (Water.sourcesR_ok ho hx)
  have h16 := Water.listD_congr (Water.den16 w' L) (Water.fewestR_ok ho hx)
  have hBY := fun Y (hY : Y < 2 ^ w'.yards.length) he => Water.bestN_min (p := w'.expl L) (all := w'.all) _ Y hY he
  have hsrc := fun y => Water.can_fnd hv hok'.ll (l := L) y
  obtain ⟨B, eB⟩ : ∃ B, Water.bestN (w'.expl L) w'.all (2 ^ w'.yards.length) = B := ⟨_, rfl⟩
  rw [eB] at h16 hBY
  have hSrcl := Water.yardsZ_le (w'.can L (Water.fnd L))
  have hsrc2 : ∀ q ∈ S, ∀ x ∈ L, x.found = true → w'.inS d q.1 q.2.1 q.2.2 x = true → ((q.1 : Int)) ∈ Water.yardsZ (w'.can L (Water.fnd L)) := fun q hq x hxL hf hi =>
    Water.yardsZ_mem.2 ⟨q.1, by have := hlt q hq; omega, (hsrc q.1).2 ⟨d, hdd, x, hxL, hf, hC q hq x hi⟩, rfl⟩
  obtain ⟨Z, eZ⟩ : ∃ Z, Water.yardsZ (w'.can L (Water.fnd L)) = Z := ⟨_, rfl⟩
  rw [eZ] at h15 hSrcl hsrc2
  rw [henc] at h11 h12 h13 h14 h15 h16
  refine Or.inl ⟨by kernel_rfl, ?_⟩
  refine ⟨_, mapO_cons (reify_agg (mapO_cons (reify_sl rfl rfl) rfl)) rfl, _, h11, ?_⟩
  refine ⟨_, mapO_cons (reify_agg (mapO_cons (reify_sl rfl rfl) rfl)) rfl, _, h12, ?_⟩
  refine ⟨_, mapO_cons (reify_agg (mapO_cons (reify_sl rfl rfl) rfl)) rfl, _, h13, ?_⟩
  refine ⟨_, mapO_cons (reify_agg (mapO_cons (reify_sl rfl rfl) rfl)) rfl, _, h14, ?_⟩
  refine ⟨_, mapO_cons (reify_agg (mapO_cons (reify_sl rfl rfl) rfl)) rfl, _, h15, ?_⟩
  refine ⟨_, mapO_cons (reify_agg (mapO_cons (reify_sl rfl rfl) rfl)) rfl, _, h16, ?_⟩
  refine ⟨fun h => absurd h (by decide), fun _ => ?_⟩
  refine ⟨fun h => absurd h (by decide), fun _ => ?_⟩
  refine ⟨fun h => absurd h (by decide), fun _ => ?_⟩
  refine ⟨fun h => absurd h (by decide), fun _ => ?_⟩
  have hSlen : ((S.map Water.rowQ).length : Int) = S.length := Water.rowQ_len _
  refine ⟨[17, 18, 20, 21, 22, 24, 25, 27, 28], 9, [], fun σ => ∃ (k : Nat) (al : Bool) (v : D), k ≤ S.length ∧ (v = .bool al ∨ (v = .ff ∧ al = false)) ∧ (al = true → ∀ q ∈ S.take k, q.1 = w.yards.length) ∧
    σ = ⟨[(17, .loc 4 0), (18, .int .i64 (w.yards.map Water.Yd.enc).length), (20, .list 4 (L.map Water.Smp.enc)), (21, .list 1 (d.map Water.encI)), (22, .list 3 (S.map Water.rowQ)), (24, .list 1 (Z.map Water.encI)), (25, .list 1 ((Water.yardsZ B).map Water.encI)), (27, v), (28, .int .i64 k)],
      boxesD b s w x y xs p lo hi' (w'.yards.map Water.Yd.enc) (max 0 (min 100 q)), .non⟩,
    fun σ => (1000 - slotI 28 σ).toNat, by kernel_rfl, ⟨by kernel_rfl, by kernel_rfl⟩, ⟨0, _, _, Nat.zero_le _, .inl rfl, fun _ q hq => by simp at hq, rfl⟩, ?_⟩
  rintro σ ⟨k, al, v, hk, hV, hal, rfl⟩
  refine ⟨fun h3 => ?_, fun h3 => ?_⟩
  · have h3 := of_decide_eq_true h3
    rw [hSlen] at h3
    have hk' : k < S.length := by omega
    obtain ⟨z, hz⟩ : ∃ z, S[k] = z := ⟨_, rfl⟩
    have hrow : (S.map Water.rowQ)[((k : Int)).toNat]? = some (Water.rowQ z) := by simp [hk', hz]
    have less : (1000 - ((k : Int) + 1)).toNat < (1000 - (k : Int)).toNat := by omega
    rcases hV with rfl | ⟨rfl, rfl⟩
    · refine ⟨fun h4 => ?_, fun h4 => ?_⟩
      · have h4 : al = true := h4
        refine ⟨by omega, _, hrow, ?_⟩
        refine ⟨(k : Int) + 1, wrap64 (by omega) (by omega), ?_⟩
        refine ⟨⟨rfl, rfl⟩, ⟨k + 1, _, _, hk', .inl rfl, fun h => ?_, rfl⟩, less⟩
        intro q' hq'
        rw [List.take_succ_eq_append_getElem hk', hz] at hq'
        rcases List.mem_append.1 hq' with h1 | h1
        · exact hal h4 q' h1
        · rw [List.mem_singleton.1 h1]
          have h : (((z.1 : Nat) : Int) == ((w.yards.map Water.Yd.enc).length : Int)) = true := h
          rw [hyl] at h
          have := of_decide_eq_true h
          omega
      · refine ⟨(k : Int) + 1, wrap64 (by omega) (by omega), ?_⟩
        exact ⟨⟨rfl, rfl⟩, ⟨k + 1, false, .ff, hk', .inr ⟨rfl, rfl⟩, (fun h => by cases h), rfl⟩, less⟩
    · refine ⟨(k : Int) + 1, wrap64 (by omega) (by omega), ?_⟩
      exact ⟨⟨rfl, rfl⟩, ⟨k + 1, false, .ff, hk', .inr ⟨rfl, rfl⟩, (fun h => by cases h), rfl⟩, less⟩
  have h3 := of_decide_eq_false h3
  rw [hSlen] at h3
  have hkS : k = S.length := by omega
  rw [hkS, List.take_length] at hal
  have hLl : ((L.map Water.Smp.enc).length : Int) = L.length := Water.smp_lenI L
  have hll := hok'.ll
  have hfew : al = true → (Water.yardsZ B).length ≤ 1 := fun h => by
    have hal := hal h
    have hY : 2 ^ w.yards.length < 2 ^ w'.yards.length := Nat.pow_lt_pow_right (by decide) (by omega)
    have he : w'.expl L (2 ^ w.yards.length) = true := (Water.expl_iff hok'.ll _).2 ⟨d, hdd, hE _ fun q hq => by rw [hal q hq]; exact Nat.testBit_two_pow_self⟩
    have h1 := hBY _ hY he
    have h2 := card_one w.yards.length (by omega)
    rw [Water.yardsZ_len]
    unfold Water.card at h1 h2
    omega
  clear hal
  rcases hV with rfl | ⟨rfl, rfl⟩
  · skip
    refine ⟨[17, 18, 20, 21, 22, 24, 25, 27, 29], 9, [], fun σ => ∃ (i : Nat), i ≤ L.length ∧
      σ = ⟨[(17, .loc 4 0), (18, .int .i64 (w.yards.map Water.Yd.enc).length), (20, .list 4 (L.map Water.Smp.enc)), (21, .list 1 (d.map Water.encI)), (22, .list 3 (S.map Water.rowQ)), (24, .list 1 (Z.map Water.encI)), (25, .list 1 ((Water.yardsZ B).map Water.encI)), (27, .bool al), (29, .int .i64 i)],
        boxesD b s w x y xs p lo hi' (w'.yards.map Water.Yd.enc) (max 0 (min 100 q)), .non⟩,
      fun σ => (1000 - slotI 29 σ).toNat, by kernel_rfl, ⟨by kernel_rfl, by kernel_rfl⟩, ⟨0, Nat.zero_le _, rfl⟩, ?_⟩
    rintro σ ⟨i', hi2, rfl⟩
    refine ⟨fun h4 => ?_, fun h4 => ?_⟩
    rotate_left
    · refine ⟨fun h => ?_, fun h => ?_⟩
      · refine ⟨_, rfl, _, Tide.den6, ?_⟩
        refine ⟨fun _ => ?_, fun h => absurd h (by decide)⟩
        exact ⟨_, rfl, _, Water.den7, rfl⟩
      · have h : al = true := by
          have h : (!al) = false := h
          simpa using h
        have hB := hfew h
        refine ⟨fun _ => ?_, fun h => absurd (show decide ((((Water.yardsZ B).map Water.encI).length : Int) ≤ 1) = false from h) (by rw [decide_eq_false_iff_not, Water.encI_len]; omega)⟩
        refine ⟨_, rfl, _, Tide.den6, ?_⟩
        refine ⟨fun _ => ?_, fun h => absurd h (by decide)⟩
        exact ⟨_, rfl, _, Water.den7, rfl⟩
    have h4 := of_decide_eq_true h4
    rw [hLl] at h4
    have hi3 : i' < L.length := by omega
    obtain ⟨u, hxi⟩ : ∃ u, L[i'] = u := ⟨_, rfl⟩
    have hgx : L[i']? = some u := by rw [List.getElem?_eq_getElem hi3, hxi]
    have hxL := List.mem_of_getElem? hgx
    have hrowx : (L.map Water.Smp.enc)[((i' : Int)).toNat]? = some (u.enc) := by simp [hi3, hxi]
    have less : (1000 - ((i' : Int) + 1)).toNat < (1000 - (i' : Int)).toNat := by omega
    refine ⟨[17, 18, 20, 21, 22, 24, 25, 27, 29, 30], 9, [], fun σ => ∃ (j : Nat), j ≤ S.length ∧
      σ = ⟨[(17, .loc 4 0), (18, .int .i64 (w.yards.map Water.Yd.enc).length), (20, .list 4 (L.map Water.Smp.enc)), (21, .list 1 (d.map Water.encI)), (22, .list 3 (S.map Water.rowQ)), (24, .list 1 (Z.map Water.encI)), (25, .list 1 ((Water.yardsZ B).map Water.encI)), (27, .bool al), (29, .int .i64 i'), (30, .int .i64 j)],
        boxesD b s w x y xs p lo hi' (w'.yards.map Water.Yd.enc) (max 0 (min 100 q)), .non⟩,
      fun σ => (1000 - slotI 30 σ).toNat, by kernel_rfl, ⟨by kernel_rfl, by kernel_rfl⟩, ⟨0, Nat.zero_le _, rfl⟩, ?_⟩
    rintro σ ⟨j, hj, rfl⟩
    refine ⟨fun h6 => ?_, fun h6 => ?_⟩
    rotate_left
    · refine ⟨(i' : Int) + 1, wrap64 (by omega) (by omega), ?_⟩
      exact ⟨⟨rfl, rfl⟩, ⟨i' + 1, hi3, rfl⟩, less⟩
    have h6 := of_decide_eq_true h6
    rw [hSlen] at h6
    have hj' : j < S.length := by omega
    obtain ⟨z, hz⟩ : ∃ z, S[j] = z := ⟨_, rfl⟩
    have hzS : z ∈ S := by rw [← hz]; exact List.getElem_mem hj'
    have hzy := hlt z hzS
    have hrow : (S.map Water.rowQ)[((j : Int)).toNat]? = some (Water.rowQ z) := by simp [hj', hz]
    have less2 : (1000 - ((j : Int) + 1)).toNat < (1000 - (j : Int)).toNat := by omega
    have h17 := Water.den17 w' hv d hdf z.1 z.2.1 z.2.2 hzy u (hok'.x u hxL)
    rw [henc] at h17
    refine Or.inl ⟨by kernel_rfl, ?_⟩
    refine ⟨by omega, _, hrowx, ?_⟩
    refine ⟨fun h7 => ?_, fun h7 => ?_⟩
    · skip
      refine ⟨(j : Int) + 1, wrap64 (by omega) (by omega), ?_⟩
      exact ⟨⟨rfl, rfl⟩, ⟨j + 1, hj', rfl⟩, less2⟩
    have hf : u.found = true := by
      have h7 : (!u.found) = false := h7
      simpa using h7
    refine ⟨by omega, _, hrow, ?_⟩
    refine ⟨fun h8 => ?_, fun h8 => ?_⟩
    · skip
      refine ⟨(j : Int) + 1, wrap64 (by omega) (by omega), ?_⟩
      exact ⟨⟨rfl, rfl⟩, ⟨j + 1, hj', rfl⟩, less2⟩
    have hzs : ((z.1 : Nat) : Int) = ((w.yards.map Water.Yd.enc).length : Int) := by
      have h8 : (((z.1 : Nat) : Int) != ((w.yards.map Water.Yd.enc).length : Int)) = false := h8
      simpa using h8
    refine ⟨by omega, _, hrow, ?_⟩
    refine ⟨by omega, _, hrowx, ?_⟩
    refine ⟨_, mapO_cons (reify_agg (mapO_cons (reify_sl rfl rfl) rfl)) rfl, _, h17, ?_⟩
    refine ⟨fun h9 => ?_, fun h9 => ?_⟩
    · skip
      refine ⟨(j : Int) + 1, wrap64 (by omega) (by omega), ?_⟩
      exact ⟨⟨rfl, rfl⟩, ⟨j + 1, hj', rfl⟩, less2⟩
    have hin : w'.inS d z.1 z.2.1 z.2.2 u = true := by
      have h9 : (!(w'.inS d z.1 z.2.1 z.2.2 u)) = false := h9
      simpa using h9
    have h18 := Water.listD_congr (Water.den18 w' L i') (Water.canR_ok ho hx hgx hf)
    rw [henc] at h18
    have hc2 : ((z.1 : Nat) : Int) ∈ Water.yardsZ (w'.can L (2 ^ i')) :=
      Water.yardsZ_mem.2 ⟨z.1, by omega, (Water.can_one hv hok'.ll hgx z.1).2 ⟨d, hdd, hC z hzS u hin⟩, rfl⟩
    have hz2 := hsrc2 z hzS u hxL hf hin
    have hCl2 := Water.yardsZ_le (w'.can L (2 ^ i'))
    obtain ⟨N, eN⟩ : ∃ N, Water.yardsZ (w'.can L (2 ^ i')) = N := ⟨_, rfl⟩
    rw [eN] at h18 hc2 hCl2
    rw [hzs] at hc2 hz2
    refine ⟨_, mapO_cons (reify_agg (mapO_cons (reify_sl rfl rfl) rfl)) rfl, _, h18, ?_⟩
    refine ⟨[17, 18, 20, 21, 22, 24, 25, 27, 29, 30, 31, 32, 33, 34, 35], 9, [], fun σ => ∃ (m : Nat) (nm : Bool) (v1 : D), m ≤ N.length ∧ Water.FV v1 nm ∧ nm = decide (((w.yards.map Water.Yd.enc).length : Int) ∈ N.take m) ∧
      σ = ⟨[(17, .loc 4 0), (18, .int .i64 (w.yards.map Water.Yd.enc).length), (20, .list 4 (L.map Water.Smp.enc)), (21, .list 1 (d.map Water.encI)), (22, .list 3 (S.map Water.rowQ)), (24, .list 1 (Z.map Water.encI)), (25, .list 1 ((Water.yardsZ B).map Water.encI)), (27, .bool al), (29, .int .i64 i'), (30, .int .i64 j), (31, .list 1 (N.map Water.encI)), (32, .int .i64 0), (33, v1), (34, .ff), (35, .int .i64 m)],
        boxesD b s w x y xs p lo hi' (w'.yards.map Water.Yd.enc) (max 0 (min 100 q)), .non⟩,
      fun σ => (1000 - slotI 35 σ).toNat, by kernel_rfl, ⟨by kernel_rfl, by kernel_rfl⟩, ⟨0, false, .ff, Nat.zero_le _, .inl ⟨rfl, rfl⟩, by simp, rfl⟩, ?_⟩
    rintro σ ⟨m, nm, v1, hm, hV, hnm, rfl⟩
    refine ⟨fun h10 => ?_, fun h10 => ?_⟩
    · have h10 := of_decide_eq_true h10
      rw [Water.encI_len] at h10
      have hm' : m < N.length := by omega
      have hrowN := Water.encI_get hm'
      have less3 : (1000 - ((m : Int) + 1)).toNat < (1000 - (m : Int)).toNat := by omega
      rcases hV with ⟨rfl, rfl⟩ | ⟨rfl, rfl⟩ | rfl
      · refine ⟨by omega, _, hrowN, ?_⟩
        refine ⟨(m : Int) + 1, wrap64 (by omega) (by omega), ?_⟩
        exact ⟨⟨rfl, rfl⟩, ⟨m + 1, _, _, hm', .inr (.inr rfl), mem_here hm' rfl hnm, rfl⟩, less3⟩
      · refine ⟨(m : Int) + 1, wrap64 (by omega) (by omega), ?_⟩
        exact ⟨⟨rfl, rfl⟩, ⟨m + 1, true, .tt, hm', .inr (.inl ⟨rfl, rfl⟩), mem_next hm' rfl hnm, rfl⟩, less3⟩
      · refine ⟨fun h11 => ?_, fun h11 => ?_⟩
        · have h11 : nm = true := h11
          refine ⟨(m : Int) + 1, wrap64 (by omega) (by omega), ?_⟩
          exact ⟨⟨rfl, rfl⟩, ⟨m + 1, true, .tt, hm', .inr (.inl ⟨rfl, rfl⟩), mem_next hm' h11 hnm, rfl⟩, less3⟩
        · have h11 : nm = false := h11
          refine ⟨by omega, _, hrowN, ?_⟩
          refine ⟨(m : Int) + 1, wrap64 (by omega) (by omega), ?_⟩
          exact ⟨⟨rfl, rfl⟩, ⟨m + 1, _, _, hm', .inr (.inr rfl), mem_here hm' h11 hnm, rfl⟩, less3⟩
    have h10 := of_decide_eq_false h10
    rw [Water.encI_len] at h10
    have hmN : m = N.length := by omega
    have hnt : nm = true := by rw [hnm, hmN, List.take_length]; exact decide_eq_true hc2
    clear hnm hmN h10 hm
    rcases hV with ⟨rfl, h12⟩ | ⟨rfl, _⟩ | rfl
    · rw [hnt] at h12; cases h12
    · clear hnt
      refine ⟨[17, 18, 20, 21, 22, 24, 25, 27, 29, 30, 32, 33, 34, 36], 9, [], fun σ => ∃ (m : Nat) (nm : Bool) (v1 : D), m ≤ Z.length ∧ Water.FV v1 nm ∧ nm = decide (((w.yards.map Water.Yd.enc).length : Int) ∈ Z.take m) ∧
        σ = ⟨[(17, .loc 4 0), (18, .int .i64 (w.yards.map Water.Yd.enc).length), (20, .list 4 (L.map Water.Smp.enc)), (21, .list 1 (d.map Water.encI)), (22, .list 3 (S.map Water.rowQ)), (24, .list 1 (Z.map Water.encI)), (25, .list 1 ((Water.yardsZ B).map Water.encI)), (27, .bool al), (29, .int .i64 i'), (30, .int .i64 j), (32, .int .i64 0), (33, .tt), (34, v1), (36, .int .i64 m)],
          boxesD b s w x y xs p lo hi' (w'.yards.map Water.Yd.enc) (max 0 (min 100 q)), .non⟩,
        fun σ => (1000 - slotI 36 σ).toNat, by kernel_rfl, ⟨by kernel_rfl, by kernel_rfl⟩, ⟨0, false, .ff, Nat.zero_le _, .inl ⟨rfl, rfl⟩, by simp, rfl⟩, ?_⟩
      rintro σ ⟨m, nm, v1, hm, hV, hnm, rfl⟩
      refine ⟨fun h10 => ?_, fun h10 => ?_⟩
      · have h10 := of_decide_eq_true h10
        rw [Water.encI_len] at h10
        have hm' : m < Z.length := by omega
        have hrowN := Water.encI_get hm'
        have less3 : (1000 - ((m : Int) + 1)).toNat < (1000 - (m : Int)).toNat := by omega
        rcases hV with ⟨rfl, rfl⟩ | ⟨rfl, rfl⟩ | rfl
        · refine ⟨by omega, _, hrowN, ?_⟩
          refine ⟨(m : Int) + 1, wrap64 (by omega) (by omega), ?_⟩
          exact ⟨⟨rfl, rfl⟩, ⟨m + 1, _, _, hm', .inr (.inr rfl), mem_here hm' rfl hnm, rfl⟩, less3⟩
        · refine ⟨(m : Int) + 1, wrap64 (by omega) (by omega), ?_⟩
          exact ⟨⟨rfl, rfl⟩, ⟨m + 1, true, .tt, hm', .inr (.inl ⟨rfl, rfl⟩), mem_next hm' rfl hnm, rfl⟩, less3⟩
        · refine ⟨fun h11 => ?_, fun h11 => ?_⟩
          · have h11 : nm = true := h11
            refine ⟨(m : Int) + 1, wrap64 (by omega) (by omega), ?_⟩
            exact ⟨⟨rfl, rfl⟩, ⟨m + 1, true, .tt, hm', .inr (.inl ⟨rfl, rfl⟩), mem_next hm' h11 hnm, rfl⟩, less3⟩
          · have h11 : nm = false := h11
            refine ⟨by omega, _, hrowN, ?_⟩
            refine ⟨(m : Int) + 1, wrap64 (by omega) (by omega), ?_⟩
            exact ⟨⟨rfl, rfl⟩, ⟨m + 1, _, _, hm', .inr (.inr rfl), mem_here hm' h11 hnm, rfl⟩, less3⟩
      have h10 := of_decide_eq_false h10
      rw [Water.encI_len] at h10
      have hmN : m = Z.length := by omega
      have hnt : nm = true := by rw [hnm, hmN, List.take_length]; exact decide_eq_true hz2
      clear hnm hmN h10 hm
      rcases hV with ⟨rfl, h12⟩ | ⟨rfl, _⟩ | rfl
      · rw [hnt] at h12; cases h12
      · clear hnt
        refine ⟨fun h => absurd h (by decide), fun _ => ?_⟩
        refine ⟨(j : Int) + 1, wrap64 (by omega) (by omega), ?_⟩
        exact ⟨⟨rfl, rfl⟩, ⟨j + 1, hj', rfl⟩, less2⟩
      · subst hnt
        refine ⟨fun h => absurd h (by decide), fun _ => ?_⟩
        refine ⟨fun h => absurd h (by decide), fun _ => ?_⟩
        refine ⟨(j : Int) + 1, wrap64 (by omega) (by omega), ?_⟩
        exact ⟨⟨rfl, rfl⟩, ⟨j + 1, hj', rfl⟩, less2⟩
    · subst hnt
      refine ⟨[17, 18, 20, 21, 22, 24, 25, 27, 29, 30, 32, 33, 34, 36], 9, [], fun σ => ∃ (m : Nat) (nm : Bool) (v1 : D), m ≤ Z.length ∧ Water.FV v1 nm ∧ nm = decide (((w.yards.map Water.Yd.enc).length : Int) ∈ Z.take m) ∧
        σ = ⟨[(17, .loc 4 0), (18, .int .i64 (w.yards.map Water.Yd.enc).length), (20, .list 4 (L.map Water.Smp.enc)), (21, .list 1 (d.map Water.encI)), (22, .list 3 (S.map Water.rowQ)), (24, .list 1 (Z.map Water.encI)), (25, .list 1 ((Water.yardsZ B).map Water.encI)), (27, .bool al), (29, .int .i64 i'), (30, .int .i64 j), (32, .int .i64 0), (33, .bool true), (34, v1), (36, .int .i64 m)],
          boxesD b s w x y xs p lo hi' (w'.yards.map Water.Yd.enc) (max 0 (min 100 q)), .non⟩,
        fun σ => (1000 - slotI 36 σ).toNat, by kernel_rfl, ⟨by kernel_rfl, by kernel_rfl⟩, ⟨0, false, .ff, Nat.zero_le _, .inl ⟨rfl, rfl⟩, by simp, rfl⟩, ?_⟩
      rintro σ ⟨m, nm, v1, hm, hV, hnm, rfl⟩
      refine ⟨fun h10 => ?_, fun h10 => ?_⟩
      · have h10 := of_decide_eq_true h10
        rw [Water.encI_len] at h10
        have hm' : m < Z.length := by omega
        have hrowN := Water.encI_get hm'
        have less3 : (1000 - ((m : Int) + 1)).toNat < (1000 - (m : Int)).toNat := by omega
        rcases hV with ⟨rfl, rfl⟩ | ⟨rfl, rfl⟩ | rfl
        · refine ⟨by omega, _, hrowN, ?_⟩
          refine ⟨(m : Int) + 1, wrap64 (by omega) (by omega), ?_⟩
          exact ⟨⟨rfl, rfl⟩, ⟨m + 1, _, _, hm', .inr (.inr rfl), mem_here hm' rfl hnm, rfl⟩, less3⟩
        · refine ⟨(m : Int) + 1, wrap64 (by omega) (by omega), ?_⟩
          exact ⟨⟨rfl, rfl⟩, ⟨m + 1, true, .tt, hm', .inr (.inl ⟨rfl, rfl⟩), mem_next hm' rfl hnm, rfl⟩, less3⟩
        · refine ⟨fun h11 => ?_, fun h11 => ?_⟩
          · have h11 : nm = true := h11
            refine ⟨(m : Int) + 1, wrap64 (by omega) (by omega), ?_⟩
            exact ⟨⟨rfl, rfl⟩, ⟨m + 1, true, .tt, hm', .inr (.inl ⟨rfl, rfl⟩), mem_next hm' h11 hnm, rfl⟩, less3⟩
          · have h11 : nm = false := h11
            refine ⟨by omega, _, hrowN, ?_⟩
            refine ⟨(m : Int) + 1, wrap64 (by omega) (by omega), ?_⟩
            exact ⟨⟨rfl, rfl⟩, ⟨m + 1, _, _, hm', .inr (.inr rfl), mem_here hm' h11 hnm, rfl⟩, less3⟩
      have h10 := of_decide_eq_false h10
      rw [Water.encI_len] at h10
      have hmN : m = Z.length := by omega
      have hnt : nm = true := by rw [hnm, hmN, List.take_length]; exact decide_eq_true hz2
      clear hnm hmN h10 hm
      rcases hV with ⟨rfl, h12⟩ | ⟨rfl, _⟩ | rfl
      · rw [hnt] at h12; cases h12
      · clear hnt
        refine ⟨fun h => absurd h (by decide), fun _ => ?_⟩
        refine ⟨fun h => absurd h (by decide), fun _ => ?_⟩
        refine ⟨(j : Int) + 1, wrap64 (by omega) (by omega), ?_⟩
        exact ⟨⟨rfl, rfl⟩, ⟨j + 1, hj', rfl⟩, less2⟩
      · subst hnt
        refine ⟨fun h => absurd h (by decide), fun _ => ?_⟩
        refine ⟨fun h => absurd h (by decide), fun _ => ?_⟩
        refine ⟨fun h => absurd h (by decide), fun _ => ?_⟩
        refine ⟨(j : Int) + 1, wrap64 (by omega) (by omega), ?_⟩
        exact ⟨⟨rfl, rfl⟩, ⟨j + 1, hj', rfl⟩, less2⟩
  · skip
    refine ⟨[17, 18, 20, 21, 22, 24, 25, 27, 29], 9, [], fun σ => ∃ (i : Nat), i ≤ L.length ∧
      σ = ⟨[(17, .loc 4 0), (18, .int .i64 (w.yards.map Water.Yd.enc).length), (20, .list 4 (L.map Water.Smp.enc)), (21, .list 1 (d.map Water.encI)), (22, .list 3 (S.map Water.rowQ)), (24, .list 1 (Z.map Water.encI)), (25, .list 1 ((Water.yardsZ B).map Water.encI)), (27, .ff), (29, .int .i64 i)],
        boxesD b s w x y xs p lo hi' (w'.yards.map Water.Yd.enc) (max 0 (min 100 q)), .non⟩,
      fun σ => (1000 - slotI 29 σ).toNat, by kernel_rfl, ⟨by kernel_rfl, by kernel_rfl⟩, ⟨0, Nat.zero_le _, rfl⟩, ?_⟩
    rintro σ ⟨i', hi2, rfl⟩
    refine ⟨fun h4 => ?_, fun h4 => ?_⟩
    rotate_left
    · refine ⟨_, rfl, _, Tide.den6, ?_⟩
      refine ⟨fun _ => ?_, fun h => absurd h (by decide)⟩
      exact ⟨_, rfl, _, Water.den7, rfl⟩
    have h4 := of_decide_eq_true h4
    rw [hLl] at h4
    have hi3 : i' < L.length := by omega
    obtain ⟨u, hxi⟩ : ∃ u, L[i'] = u := ⟨_, rfl⟩
    have hgx : L[i']? = some u := by rw [List.getElem?_eq_getElem hi3, hxi]
    have hxL := List.mem_of_getElem? hgx
    have hrowx : (L.map Water.Smp.enc)[((i' : Int)).toNat]? = some (u.enc) := by simp [hi3, hxi]
    have less : (1000 - ((i' : Int) + 1)).toNat < (1000 - (i' : Int)).toNat := by omega
    refine ⟨[17, 18, 20, 21, 22, 24, 25, 27, 29, 30], 9, [], fun σ => ∃ (j : Nat), j ≤ S.length ∧
      σ = ⟨[(17, .loc 4 0), (18, .int .i64 (w.yards.map Water.Yd.enc).length), (20, .list 4 (L.map Water.Smp.enc)), (21, .list 1 (d.map Water.encI)), (22, .list 3 (S.map Water.rowQ)), (24, .list 1 (Z.map Water.encI)), (25, .list 1 ((Water.yardsZ B).map Water.encI)), (27, .ff), (29, .int .i64 i'), (30, .int .i64 j)],
        boxesD b s w x y xs p lo hi' (w'.yards.map Water.Yd.enc) (max 0 (min 100 q)), .non⟩,
      fun σ => (1000 - slotI 30 σ).toNat, by kernel_rfl, ⟨by kernel_rfl, by kernel_rfl⟩, ⟨0, Nat.zero_le _, rfl⟩, ?_⟩
    rintro σ ⟨j, hj, rfl⟩
    refine ⟨fun h6 => ?_, fun h6 => ?_⟩
    rotate_left
    · refine ⟨(i' : Int) + 1, wrap64 (by omega) (by omega), ?_⟩
      exact ⟨⟨rfl, rfl⟩, ⟨i' + 1, hi3, rfl⟩, less⟩
    have h6 := of_decide_eq_true h6
    rw [hSlen] at h6
    have hj' : j < S.length := by omega
    obtain ⟨z, hz⟩ : ∃ z, S[j] = z := ⟨_, rfl⟩
    have hzS : z ∈ S := by rw [← hz]; exact List.getElem_mem hj'
    have hzy := hlt z hzS
    have hrow : (S.map Water.rowQ)[((j : Int)).toNat]? = some (Water.rowQ z) := by simp [hj', hz]
    have less2 : (1000 - ((j : Int) + 1)).toNat < (1000 - (j : Int)).toNat := by omega
    have h17 := Water.den17 w' hv d hdf z.1 z.2.1 z.2.2 hzy u (hok'.x u hxL)
    rw [henc] at h17
    refine Or.inl ⟨by kernel_rfl, ?_⟩
    refine ⟨by omega, _, hrowx, ?_⟩
    refine ⟨fun h7 => ?_, fun h7 => ?_⟩
    · skip
      refine ⟨(j : Int) + 1, wrap64 (by omega) (by omega), ?_⟩
      exact ⟨⟨rfl, rfl⟩, ⟨j + 1, hj', rfl⟩, less2⟩
    have hf : u.found = true := by
      have h7 : (!u.found) = false := h7
      simpa using h7
    refine ⟨by omega, _, hrow, ?_⟩
    refine ⟨fun h8 => ?_, fun h8 => ?_⟩
    · skip
      refine ⟨(j : Int) + 1, wrap64 (by omega) (by omega), ?_⟩
      exact ⟨⟨rfl, rfl⟩, ⟨j + 1, hj', rfl⟩, less2⟩
    have hzs : ((z.1 : Nat) : Int) = ((w.yards.map Water.Yd.enc).length : Int) := by
      have h8 : (((z.1 : Nat) : Int) != ((w.yards.map Water.Yd.enc).length : Int)) = false := h8
      simpa using h8
    refine ⟨by omega, _, hrow, ?_⟩
    refine ⟨by omega, _, hrowx, ?_⟩
    refine ⟨_, mapO_cons (reify_agg (mapO_cons (reify_sl rfl rfl) rfl)) rfl, _, h17, ?_⟩
    refine ⟨fun h9 => ?_, fun h9 => ?_⟩
    · skip
      refine ⟨(j : Int) + 1, wrap64 (by omega) (by omega), ?_⟩
      exact ⟨⟨rfl, rfl⟩, ⟨j + 1, hj', rfl⟩, less2⟩
    have hin : w'.inS d z.1 z.2.1 z.2.2 u = true := by
      have h9 : (!(w'.inS d z.1 z.2.1 z.2.2 u)) = false := h9
      simpa using h9
    have h18 := Water.listD_congr (Water.den18 w' L i') (Water.canR_ok ho hx hgx hf)
    rw [henc] at h18
    have hc2 : ((z.1 : Nat) : Int) ∈ Water.yardsZ (w'.can L (2 ^ i')) :=
      Water.yardsZ_mem.2 ⟨z.1, by omega, (Water.can_one hv hok'.ll hgx z.1).2 ⟨d, hdd, hC z hzS u hin⟩, rfl⟩
    have hz2 := hsrc2 z hzS u hxL hf hin
    have hCl2 := Water.yardsZ_le (w'.can L (2 ^ i'))
    obtain ⟨N, eN⟩ : ∃ N, Water.yardsZ (w'.can L (2 ^ i')) = N := ⟨_, rfl⟩
    rw [eN] at h18 hc2 hCl2
    rw [hzs] at hc2 hz2
    refine ⟨_, mapO_cons (reify_agg (mapO_cons (reify_sl rfl rfl) rfl)) rfl, _, h18, ?_⟩
    refine ⟨[17, 18, 20, 21, 22, 24, 25, 27, 29, 30, 31, 32, 33, 34, 35], 9, [], fun σ => ∃ (m : Nat) (nm : Bool) (v1 : D), m ≤ N.length ∧ Water.FV v1 nm ∧ nm = decide (((w.yards.map Water.Yd.enc).length : Int) ∈ N.take m) ∧
      σ = ⟨[(17, .loc 4 0), (18, .int .i64 (w.yards.map Water.Yd.enc).length), (20, .list 4 (L.map Water.Smp.enc)), (21, .list 1 (d.map Water.encI)), (22, .list 3 (S.map Water.rowQ)), (24, .list 1 (Z.map Water.encI)), (25, .list 1 ((Water.yardsZ B).map Water.encI)), (27, .ff), (29, .int .i64 i'), (30, .int .i64 j), (31, .list 1 (N.map Water.encI)), (32, .int .i64 0), (33, v1), (34, .ff), (35, .int .i64 m)],
        boxesD b s w x y xs p lo hi' (w'.yards.map Water.Yd.enc) (max 0 (min 100 q)), .non⟩,
      fun σ => (1000 - slotI 35 σ).toNat, by kernel_rfl, ⟨by kernel_rfl, by kernel_rfl⟩, ⟨0, false, .ff, Nat.zero_le _, .inl ⟨rfl, rfl⟩, by simp, rfl⟩, ?_⟩
    rintro σ ⟨m, nm, v1, hm, hV, hnm, rfl⟩
    refine ⟨fun h10 => ?_, fun h10 => ?_⟩
    · have h10 := of_decide_eq_true h10
      rw [Water.encI_len] at h10
      have hm' : m < N.length := by omega
      have hrowN := Water.encI_get hm'
      have less3 : (1000 - ((m : Int) + 1)).toNat < (1000 - (m : Int)).toNat := by omega
      rcases hV with ⟨rfl, rfl⟩ | ⟨rfl, rfl⟩ | rfl
      · refine ⟨by omega, _, hrowN, ?_⟩
        refine ⟨(m : Int) + 1, wrap64 (by omega) (by omega), ?_⟩
        exact ⟨⟨rfl, rfl⟩, ⟨m + 1, _, _, hm', .inr (.inr rfl), mem_here hm' rfl hnm, rfl⟩, less3⟩
      · refine ⟨(m : Int) + 1, wrap64 (by omega) (by omega), ?_⟩
        exact ⟨⟨rfl, rfl⟩, ⟨m + 1, true, .tt, hm', .inr (.inl ⟨rfl, rfl⟩), mem_next hm' rfl hnm, rfl⟩, less3⟩
      · refine ⟨fun h11 => ?_, fun h11 => ?_⟩
        · have h11 : nm = true := h11
          refine ⟨(m : Int) + 1, wrap64 (by omega) (by omega), ?_⟩
          exact ⟨⟨rfl, rfl⟩, ⟨m + 1, true, .tt, hm', .inr (.inl ⟨rfl, rfl⟩), mem_next hm' h11 hnm, rfl⟩, less3⟩
        · have h11 : nm = false := h11
          refine ⟨by omega, _, hrowN, ?_⟩
          refine ⟨(m : Int) + 1, wrap64 (by omega) (by omega), ?_⟩
          exact ⟨⟨rfl, rfl⟩, ⟨m + 1, _, _, hm', .inr (.inr rfl), mem_here hm' h11 hnm, rfl⟩, less3⟩
    have h10 := of_decide_eq_false h10
    rw [Water.encI_len] at h10
    have hmN : m = N.length := by omega
    have hnt : nm = true := by rw [hnm, hmN, List.take_length]; exact decide_eq_true hc2
    clear hnm hmN h10 hm
    rcases hV with ⟨rfl, h12⟩ | ⟨rfl, _⟩ | rfl
    · rw [hnt] at h12; cases h12
    · clear hnt
      refine ⟨[17, 18, 20, 21, 22, 24, 25, 27, 29, 30, 32, 33, 34, 36], 9, [], fun σ => ∃ (m : Nat) (nm : Bool) (v1 : D), m ≤ Z.length ∧ Water.FV v1 nm ∧ nm = decide (((w.yards.map Water.Yd.enc).length : Int) ∈ Z.take m) ∧
        σ = ⟨[(17, .loc 4 0), (18, .int .i64 (w.yards.map Water.Yd.enc).length), (20, .list 4 (L.map Water.Smp.enc)), (21, .list 1 (d.map Water.encI)), (22, .list 3 (S.map Water.rowQ)), (24, .list 1 (Z.map Water.encI)), (25, .list 1 ((Water.yardsZ B).map Water.encI)), (27, .ff), (29, .int .i64 i'), (30, .int .i64 j), (32, .int .i64 0), (33, .tt), (34, v1), (36, .int .i64 m)],
          boxesD b s w x y xs p lo hi' (w'.yards.map Water.Yd.enc) (max 0 (min 100 q)), .non⟩,
        fun σ => (1000 - slotI 36 σ).toNat, by kernel_rfl, ⟨by kernel_rfl, by kernel_rfl⟩, ⟨0, false, .ff, Nat.zero_le _, .inl ⟨rfl, rfl⟩, by simp, rfl⟩, ?_⟩
      rintro σ ⟨m, nm, v1, hm, hV, hnm, rfl⟩
      refine ⟨fun h10 => ?_, fun h10 => ?_⟩
      · have h10 := of_decide_eq_true h10
        rw [Water.encI_len] at h10
        have hm' : m < Z.length := by omega
        have hrowN := Water.encI_get hm'
        have less3 : (1000 - ((m : Int) + 1)).toNat < (1000 - (m : Int)).toNat := by omega
        rcases hV with ⟨rfl, rfl⟩ | ⟨rfl, rfl⟩ | rfl
        · refine ⟨by omega, _, hrowN, ?_⟩
          refine ⟨(m : Int) + 1, wrap64 (by omega) (by omega), ?_⟩
          exact ⟨⟨rfl, rfl⟩, ⟨m + 1, _, _, hm', .inr (.inr rfl), mem_here hm' rfl hnm, rfl⟩, less3⟩
        · refine ⟨(m : Int) + 1, wrap64 (by omega) (by omega), ?_⟩
          exact ⟨⟨rfl, rfl⟩, ⟨m + 1, true, .tt, hm', .inr (.inl ⟨rfl, rfl⟩), mem_next hm' rfl hnm, rfl⟩, less3⟩
        · refine ⟨fun h11 => ?_, fun h11 => ?_⟩
          · have h11 : nm = true := h11
            refine ⟨(m : Int) + 1, wrap64 (by omega) (by omega), ?_⟩
            exact ⟨⟨rfl, rfl⟩, ⟨m + 1, true, .tt, hm', .inr (.inl ⟨rfl, rfl⟩), mem_next hm' h11 hnm, rfl⟩, less3⟩
          · have h11 : nm = false := h11
            refine ⟨by omega, _, hrowN, ?_⟩
            refine ⟨(m : Int) + 1, wrap64 (by omega) (by omega), ?_⟩
            exact ⟨⟨rfl, rfl⟩, ⟨m + 1, _, _, hm', .inr (.inr rfl), mem_here hm' h11 hnm, rfl⟩, less3⟩
      have h10 := of_decide_eq_false h10
      rw [Water.encI_len] at h10
      have hmN : m = Z.length := by omega
      have hnt : nm = true := by rw [hnm, hmN, List.take_length]; exact decide_eq_true hz2
      clear hnm hmN h10 hm
      rcases hV with ⟨rfl, h12⟩ | ⟨rfl, _⟩ | rfl
      · rw [hnt] at h12; cases h12
      · clear hnt
        refine ⟨fun h => absurd h (by decide), fun _ => ?_⟩
        refine ⟨(j : Int) + 1, wrap64 (by omega) (by omega), ?_⟩
        exact ⟨⟨rfl, rfl⟩, ⟨j + 1, hj', rfl⟩, less2⟩
      · subst hnt
        refine ⟨fun h => absurd h (by decide), fun _ => ?_⟩
        refine ⟨fun h => absurd h (by decide), fun _ => ?_⟩
        refine ⟨(j : Int) + 1, wrap64 (by omega) (by omega), ?_⟩
        exact ⟨⟨rfl, rfl⟩, ⟨j + 1, hj', rfl⟩, less2⟩
    · subst hnt
      refine ⟨[17, 18, 20, 21, 22, 24, 25, 27, 29, 30, 32, 33, 34, 36], 9, [], fun σ => ∃ (m : Nat) (nm : Bool) (v1 : D), m ≤ Z.length ∧ Water.FV v1 nm ∧ nm = decide (((w.yards.map Water.Yd.enc).length : Int) ∈ Z.take m) ∧
        σ = ⟨[(17, .loc 4 0), (18, .int .i64 (w.yards.map Water.Yd.enc).length), (20, .list 4 (L.map Water.Smp.enc)), (21, .list 1 (d.map Water.encI)), (22, .list 3 (S.map Water.rowQ)), (24, .list 1 (Z.map Water.encI)), (25, .list 1 ((Water.yardsZ B).map Water.encI)), (27, .ff), (29, .int .i64 i'), (30, .int .i64 j), (32, .int .i64 0), (33, .bool true), (34, v1), (36, .int .i64 m)],
          boxesD b s w x y xs p lo hi' (w'.yards.map Water.Yd.enc) (max 0 (min 100 q)), .non⟩,
        fun σ => (1000 - slotI 36 σ).toNat, by kernel_rfl, ⟨by kernel_rfl, by kernel_rfl⟩, ⟨0, false, .ff, Nat.zero_le _, .inl ⟨rfl, rfl⟩, by simp, rfl⟩, ?_⟩
      rintro σ ⟨m, nm, v1, hm, hV, hnm, rfl⟩
      refine ⟨fun h10 => ?_, fun h10 => ?_⟩
      · have h10 := of_decide_eq_true h10
        rw [Water.encI_len] at h10
        have hm' : m < Z.length := by omega
        have hrowN := Water.encI_get hm'
        have less3 : (1000 - ((m : Int) + 1)).toNat < (1000 - (m : Int)).toNat := by omega
        rcases hV with ⟨rfl, rfl⟩ | ⟨rfl, rfl⟩ | rfl
        · refine ⟨by omega, _, hrowN, ?_⟩
          refine ⟨(m : Int) + 1, wrap64 (by omega) (by omega), ?_⟩
          exact ⟨⟨rfl, rfl⟩, ⟨m + 1, _, _, hm', .inr (.inr rfl), mem_here hm' rfl hnm, rfl⟩, less3⟩
        · refine ⟨(m : Int) + 1, wrap64 (by omega) (by omega), ?_⟩
          exact ⟨⟨rfl, rfl⟩, ⟨m + 1, true, .tt, hm', .inr (.inl ⟨rfl, rfl⟩), mem_next hm' rfl hnm, rfl⟩, less3⟩
        · refine ⟨fun h11 => ?_, fun h11 => ?_⟩
          · have h11 : nm = true := h11
            refine ⟨(m : Int) + 1, wrap64 (by omega) (by omega), ?_⟩
            exact ⟨⟨rfl, rfl⟩, ⟨m + 1, true, .tt, hm', .inr (.inl ⟨rfl, rfl⟩), mem_next hm' h11 hnm, rfl⟩, less3⟩
          · have h11 : nm = false := h11
            refine ⟨by omega, _, hrowN, ?_⟩
            refine ⟨(m : Int) + 1, wrap64 (by omega) (by omega), ?_⟩
            exact ⟨⟨rfl, rfl⟩, ⟨m + 1, _, _, hm', .inr (.inr rfl), mem_here hm' h11 hnm, rfl⟩, less3⟩
      have h10 := of_decide_eq_false h10
      rw [Water.encI_len] at h10
      have hmN : m = Z.length := by omega
      have hnt : nm = true := by rw [hnm, hmN, List.take_length]; exact decide_eq_true hz2
      clear hnm hmN h10 hm
      rcases hV with ⟨rfl, h12⟩ | ⟨rfl, _⟩ | rfl
      · rw [hnt] at h12; cases h12
      · clear hnt
        refine ⟨fun h => absurd h (by decide), fun _ => ?_⟩
        refine ⟨fun h => absurd h (by decide), fun _ => ?_⟩
        refine ⟨(j : Int) + 1, wrap64 (by omega) (by omega), ?_⟩
        exact ⟨⟨rfl, rfl⟩, ⟨j + 1, hj', rfl⟩, less2⟩
      · subst hnt
        refine ⟨fun h => absurd h (by decide), fun _ => ?_⟩
        refine ⟨fun h => absurd h (by decide), fun _ => ?_⟩
        refine ⟨fun h => absurd h (by decide), fun _ => ?_⟩
        refine ⟨(j : Int) + 1, wrap64 (by omega) (by omega), ?_⟩
        exact ⟨⟨rfl, rfl⟩, ⟨j + 1, hj', rfl⟩, less2⟩

end Go.Proofs.Top
