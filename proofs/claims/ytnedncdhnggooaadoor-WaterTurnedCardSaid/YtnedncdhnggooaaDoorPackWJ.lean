/- The law's function WaterOrder returns true. No condition. -/
import Derived.Test.YtnedncdhnggooaaDoorPackWG

namespace Go.Proofs.Water
open Go.V Go.Proofs

theorem mem_put {α : Type} {l : List α} {k : Nat} {r x : α} : x ∈ l.take k ++ [r] ++ l.drop k ↔ x ∈ l ∨ x = r := by
  have h : x ∈ l ↔ x ∈ l.take k ∨ x ∈ l.drop k := by
    conv => lhs; rw [← List.take_append_drop k l]
    rw [List.mem_append]
  rw [h, List.mem_append, List.mem_append, List.mem_singleton]
  constructor
  · rintro ((h | h) | h)
    · exact .inl (.inl h)
    · exact .inr h
    · exact .inl (.inr h)
  · rintro ((h | h) | h)
    · exact .inl (.inl h)
    · exact .inr h
    · exact .inl (.inr h)

theorem expl_same {s : Sh} {l O : List Smp} (hl : l.length ≤ 8) (hO : O.length ≤ 8) (h : ∀ x, x ∈ l ↔ x ∈ O) (m : Nat) : s.expl O m = s.expl l m := by
  apply Bool.eq_iff_iff.2
  exact ⟨fun h1 => expl_sub hO hl (fun x hx => (h x).1 hx) h1, fun h1 => expl_sub hl hO (fun x hx => (h x).2 hx) h1⟩
theorem order_same {s : Sh} {l O : List Smp} (h1 : s.openE l = 0) (h2 : s.openE O = 0) (h : ∀ x, x ∈ l ↔ x ∈ O) : s.sourcesR O = s.sourcesR l ∧ s.mustR O = s.mustR l ∧ s.fewestR O = s.fewestR l := by
  have o1 := ok_of h1
  have o2 := ok_of h2
  have hex := fun m => expl_same (s := s) o1.ll o2.ll h m
  have hent : s.enterE O = s.enterE l := by rw [enter_open h1, enter_open h2, hex]
  have hcan : s.can O (fnd O) = s.can l (fnd l) := by
    apply Nat.eq_of_testBit_eq
    intro y
    apply Bool.eq_iff_iff.2
    rw [can_fnd o2.v o2.ll, can_fnd o1.v o1.ll]
    constructor
    · rintro ⟨d, hd, x, hx, hf, hc⟩
      exact ⟨d, hd, x, (h x).2 hx, hf, (Tr.sub fun z hz => (h z).1 hz).canAt (fun _ h => h) (fun _ _ h => h) hc⟩
    · rintro ⟨d, hd, x, hx, hf, hc⟩
      exact ⟨d, hd, x, (h x).1 hx, hf, (Tr.sub fun z hz => (h z).2 hz).canAt (fun _ h => h) (fun _ _ h => h) hc⟩
  have hm : s.mustL O s.yards.length = s.mustL l s.yards.length := by unfold Sh.mustL; simp only [hex]
  have hb : bestN (s.expl O) s.all (2 ^ s.yards.length) = bestN (s.expl l) s.all (2 ^ s.yards.length) := bestN_congr hex _
  refine ⟨?_, ?_, ?_⟩
  · unfold Sh.sourcesR; rw [hent, hcan]
  · unfold Sh.mustR; rw [hent, hm]
  · unfold Sh.fewestR; rw [hent, hb]

set_option maxRecDepth 8000 in
set_option maxHeartbeats 8000000 in
theorem den12 (s : Sh) (l : List Smp) (xs : List Int) (hxs : inL xs 65536) : DN 12 [.agg s.enc, .list 4 (l.map Smp.enc), .list 1 (xs.map enc16)] (.bool true) := by
  refine mk Tryd.func12 Tryd.call12 rfl rfl ?_
  have hll : ((l.map Smp.enc).length : Int) = l.length := by simp
  have eqs : ∀ n : Int, (n == n) = true := fun n => by simp
  have h43 := den43 s l
  by_cases ho : s.openE l = 0
  rotate_left
  · obtain ⟨e, he⟩ : ∃ e, s.openE l = e := ⟨_, rfl⟩
    rw [he] at h43 ho
    refine ⟨_, rfl, _, h43, ?_⟩
    refine ⟨fun _ => ⟨_, rfl, _, den22, rfl⟩, fun h => absurd (by simpa using h) ho⟩
  rw [ho] at h43
  have hok := ok_of ho
  have hlen := hok.ll
  refine ⟨_, rfl, _, h43, ?_⟩
  refine ⟨(fun h => absurd h (by decide)), fun _ => ?_⟩
  refine ⟨[1, 2, 3, 7, 8], 1, [(.slot 7, 4), (.swap 1 3, 0)], fun σ => ∃ (i : Nat) (other : List Smp) (g : Nat), i ≤ l.length ∧ other.length = i ∧ (∀ r, r ∈ other ↔ r ∈ l.take i) ∧ (g = 0 ∨ g = 2) ∧
    σ = ⟨[(1, .list 4 (l.map Smp.enc)), (2, .list 1 (xs.map enc16)), (3, .loc 0 0), (7, .sl 1 g 0 (other.map Smp.enc).length), (8, .int .i64 i)],
      [.flat false s.enc, .rows false g 4 (other.map Smp.enc)], .non⟩, fun σ => (1000 - slotI 8 σ).toNat, rfl, ⟨rfl, rfl⟩, ⟨0, [], 0, Nat.zero_le _, rfl, by simp, .inl rfl, rfl⟩, ?_⟩
  rintro σ ⟨i, other, g, hi, hol, hmem, hg02, rfl⟩
  refine ⟨fun h1 => ?_, fun h1 => ?_⟩
  · have h1 : (i : Int) < l.length := by rw [← hll]; exact of_decide_eq_true h1
    have hi' : i < l.length := by omega
    obtain ⟨r, hr⟩ : ∃ r, l[i] = r := ⟨_, rfl⟩
    have hrow : (l.map Smp.enc)[((i : Int)).toNat]? = some (r.enc) := by simp [hi', hr]
    have htn := turn_in hxs (by decide) (i : Int)
    have har := tmod_range htn.1 (k := (i : Int) + 1) (by omega)
    obtain ⟨k, hk⟩ : ∃ k : Nat, (turnE xs i).tmod ((i : Int) + 1) = k := ⟨((turnE xs i).tmod ((i : Int) + 1)).toNat, by omega⟩
    rw [hk] at har
    have hki : k ≤ other.length := by omega
    have hmemN : ∀ x, x ∈ other.take k ++ [r] ++ other.drop k ↔ x ∈ l.take (i + 1) := fun x => by
      rw [mem_put, hmem, List.take_succ_eq_append_getElem hi', List.mem_append, List.mem_singleton, hr]
    have hlenN : (other.take k ++ [r] ++ other.drop k).length = i + 1 := by
      rw [List.length_append, List.length_append, List.length_take, List.length_drop, List.length_singleton]; omega
    have hcat1 : List.take ((k : Int)).toNat (List.drop 0 (other.map Smp.enc)) ++ [r.enc] = (other.take k ++ [r]).map Smp.enc := by simp
    have hcat2 : (other.take k ++ [r]).map Smp.enc ++ List.take ((other.map Smp.enc).length - ((k : Int)).toNat) (List.drop (0 + ((k : Int)).toNat) (other.map Smp.enc)) = (other.take k ++ [r] ++ other.drop k).map Smp.enc := by
      rw [Int.toNat_natCast, Nat.zero_add]
      have e : List.take ((other.map Smp.enc).length - k) (List.drop k (other.map Smp.enc)) = List.drop k (other.map Smp.enc) := List.take_of_length_le (by rw [List.length_drop]; exact Nat.le_refl _)
      rw [e]
      simp
    have hkl : (k : Int) ≤ ((other.map Smp.enc).length : Int) := by rw [List.length_map]; omega
    have hb1 : (List.take ((k : Int)).toNat (List.drop 0 (other.map Smp.enc))).length * 32 ≤ mostBytes := by
      have : (List.take ((k : Int)).toNat (List.drop 0 (other.map Smp.enc))).length ≤ k := by rw [Int.toNat_natCast]; exact List.length_take_le _ _
      unfold mostBytes; omega
    have hb2 : ((List.take ((k : Int)).toNat (List.drop 0 (other.map Smp.enc))).length + 1) * 32 ≤ mostBytes := by
      unfold mostBytes at hb1 ⊢
      have : (List.take ((k : Int)).toNat (List.drop 0 (other.map Smp.enc))).length ≤ k := by rw [Int.toNat_natCast]; exact List.length_take_le _ _
      omega
    have hb3 : (((other.take k ++ [r]).map Smp.enc).length + (List.take ((other.map Smp.enc).length - ((k : Int)).toNat) (List.drop (0 + ((k : Int)).toNat) (other.map Smp.enc))).length) * 32 ≤ mostBytes := by
      rw [← List.length_append, hcat2, List.length_map, hlenN]; unfold mostBytes; omega
    have hme : (1000 - ((i : Int) + 1)).toNat < (1000 - (i : Int)).toNat := by omega
    rcases hg02 with rfl | rfl
    all_goals
      refine ⟨_, rfl, _, den48 xs i hxs (by omega), ?_⟩
      refine ⟨(i : Int) + 1, wrap64 (by omega) (by omega), ?_⟩
      refine ⟨by omega, (k : Int), hk, ?_⟩
      refine Or.inr (Or.inr ⟨[0, 1, 2, 3, 4, 5, 6, 7, 8, 9, 11, 12, 13, 10, 14, 15], 13, [10, 11, 12], by kernel_rfl, ?_⟩)
      refine ⟨⟨by omega, hkl⟩, ?_⟩
      refine ⟨trivial, hb1, ?_⟩
      refine ⟨by omega, _, hrow, ?_⟩
      refine ⟨⟨by omega, hkl⟩, ?_⟩
      refine ⟨trivial, iff' (by rfl) ⟨rfl, hb2, _, hcat1, ?_⟩⟩
      refine ⟨⟨rfl, rfl, ⟨⟨by omega, hkl⟩, rfl⟩, trivial⟩, ?_⟩
      refine ⟨trivial, iff' (by rfl) ⟨rfl, hb3, _, hcat2, ?_⟩⟩
      refine ⟨⟨rfl, rfl, trivial⟩, ?_⟩
      refine ⟨trivial, ?_⟩
      refine ⟨(i : Int) + 1, wrap64 (by omega) (by omega), ?_⟩
      exact ⟨⟨rfl, rfl⟩, ⟨i + 1, _, 2, by omega, hlenN, hmemN, .inr rfl, rfl⟩, hme⟩
  have h1 : ¬ (i : Int) < l.length := by rw [← hll]; exact of_decide_eq_false h1
  have hil : i = l.length := by omega
  subst hil
  rw [List.take_length] at hmem
  have ha1 := sourcesR_len s l
  have hb1 := mustR_len s l
  have hc1 := fewestR_len s l
  obtain ⟨⟨a, ae⟩, ha⟩ : ∃ a, s.sourcesR l = a := ⟨_, rfl⟩
  obtain ⟨⟨b, be⟩, hb⟩ : ∃ a, s.mustR l = a := ⟨_, rfl⟩
  obtain ⟨⟨c, ce⟩, hc⟩ : ∃ a, s.fewestR l = a := ⟨_, rfl⟩
  have h23a := listD_congr (den23 s l) ha
  have h25a := listD_congr (den25 s l) hb
  have h27a := listD_congr (den27 s l) hc
  rw [ha] at ha1
  rw [hb] at hb1
  rw [hc] at hc1
  have hall : ∀ O : List Smp, O.length ≤ 8 → (∀ r, r ∈ l ↔ r ∈ O) → DN 23 [.agg s.enc, .list 4 (O.map Smp.enc)] (.tup [.list 1 (a.map encI), .int .i64 ae]) ∧ DN 25 [.agg s.enc, .list 4 (O.map Smp.enc)] (.tup [.list 1 (b.map encI), .int .i64 be]) ∧ DN 27 [.agg s.enc, .list 4 (O.map Smp.enc)] (.tup [.list 1 (c.map encI), .int .i64 ce]) := by
    intro O h1 h2
    have ho2 : s.openE O = 0 := by
      obtain ⟨x1, x2, x3, x4⟩ := (open_iff s l).1 ho
      exact (open_iff s O).2 ⟨x1, x2, h1, fun y hy => x4 y ((h2 y).2 hy)⟩
    obtain ⟨e1, e2, e3⟩ := order_same ho ho2 h2
    exact ⟨listD_congr (den23 s O) (e1.trans ha), listD_congr (den25 s O) (e2.trans hb), listD_congr (den27 s O) (e3.trans hc)⟩
  refine ⟨fun h2 => ?_, fun h2 => ?_⟩
  · refine ⟨fun h3 => ?_, fun h3 => ?_⟩
    · have h2 : 0 < (l.length : Int) := by rw [← hll]; exact of_decide_eq_true h2
      have h3 : (l.length : Int) < 8 := by rw [← hll]; exact of_decide_eq_true h3
      have htn := turn_in hxs (by decide) 1
      have har := tmod_range htn.1 (k := (l.length : Int)) (by omega)
      obtain ⟨k, hk⟩ : ∃ k : Nat, (turnE xs 1).tmod (l.length : Int) = k := ⟨((turnE xs 1).tmod (l.length : Int)).toNat, by omega⟩
      rw [hk] at har
      have hkl : k < l.length := by omega
      obtain ⟨x, hx⟩ : ∃ x, l[k] = x := ⟨_, rfl⟩
      have hxl : x ∈ l := by rw [← hx]; exact List.getElem_mem hkl
      have hrow : (l.map Smp.enc)[((k : Int)).toNat]? = some (x.enc) := by simp [hkl, hx]
      have hcat : other.map Smp.enc ++ [x.enc] = (other ++ [x]).map Smp.enc := by simp
      obtain ⟨h23b, h25b, h27b⟩ := hall (other ++ [x]) (by simp; omega) fun r => by
        rw [List.mem_append, List.mem_singleton, hmem]
        constructor
        · exact .inl
        · rintro (h | rfl)
          · exact h
          · exact hxl
      refine ⟨_, rfl, _, den48 xs 1 hxs (by decide), ?_⟩
      refine ⟨by rw [hll]; omega, (k : Int), by rw [hll]; exact hk, ?_⟩
      refine ⟨by omega, _, hrow, ?_⟩
      refine ⟨trivial, iff' (by rw [beq_self]; rfl) ⟨rfl, ?_, _, hcat, ?_⟩⟩
      · show ((other.map Smp.enc).length + 1) * 32 ≤ mostBytes
        rw [List.length_map]; unfold mostBytes; omega
      refine ⟨_, rfl, _, h23a, ?_⟩
      refine ⟨_, mapO_cons rfl (mapO_cons (reify_sl rfl rfl) rfl), _, h23b, ?_⟩
      refine ⟨_, rfl, _, h25a, ?_⟩
      refine ⟨_, mapO_cons rfl (mapO_cons (reify_sl rfl rfl) rfl), _, h25b, ?_⟩
      refine ⟨_, rfl, _, h27a, ?_⟩
      refine ⟨_, mapO_cons rfl (mapO_cons (reify_sl rfl rfl) rfl), _, h27b, ?_⟩
      refine ⟨_, rfl, _, e21 a ha1, ?_⟩
      refine ⟨fun _ => ?_, fun h => absurd h (by decide)⟩
      refine ⟨fun _ => ?_, fun h => absurd ((eqs _).symm.trans h) (by decide)⟩
      refine ⟨_, rfl, _, e21 b hb1, ?_⟩
      refine ⟨fun _ => ?_, fun h => absurd h (by decide)⟩
      refine ⟨fun _ => ?_, fun h => absurd ((eqs _).symm.trans h) (by decide)⟩
      refine ⟨_, rfl, _, e21 c hc1, ?_⟩
      refine ⟨fun _ => ?_, fun h => absurd h (by decide)⟩
      refine ⟨fun _ => ?_, fun h => absurd ((eqs _).symm.trans h) (by decide)⟩
      exact ⟨_, rfl, _, den22, rfl⟩
    · obtain ⟨h23b, h25b, h27b⟩ := hall other (by omega) fun r => (hmem r).symm
      refine ⟨_, rfl, _, h23a, ?_⟩
      refine ⟨_, mapO_cons rfl (mapO_cons (reify_sl rfl rfl) rfl), _, h23b, ?_⟩
      refine ⟨_, rfl, _, h25a, ?_⟩
      refine ⟨_, mapO_cons rfl (mapO_cons (reify_sl rfl rfl) rfl), _, h25b, ?_⟩
      refine ⟨_, rfl, _, h27a, ?_⟩
      refine ⟨_, mapO_cons rfl (mapO_cons (reify_sl rfl rfl) rfl), _, h27b, ?_⟩
      refine ⟨_, rfl, _, e21 a ha1, ?_⟩
      refine ⟨fun _ => ?_, fun h => absurd h (by decide)⟩
      refine ⟨fun _ => ?_, fun h => absurd ((eqs _).symm.trans h) (by decide)⟩
      refine ⟨_, rfl, _, e21 b hb1, ?_⟩
      refine ⟨fun _ => ?_, fun h => absurd h (by decide)⟩
      refine ⟨fun _ => ?_, fun h => absurd ((eqs _).symm.trans h) (by decide)⟩
      refine ⟨_, rfl, _, e21 c hc1, ?_⟩
      refine ⟨fun _ => ?_, fun h => absurd h (by decide)⟩
      refine ⟨fun _ => ?_, fun h => absurd ((eqs _).symm.trans h) (by decide)⟩
      exact ⟨_, rfl, _, den22, rfl⟩
  · obtain ⟨h23b, h25b, h27b⟩ := hall other (by omega) fun r => (hmem r).symm
    refine ⟨_, rfl, _, h23a, ?_⟩
    refine ⟨_, mapO_cons rfl (mapO_cons (reify_sl rfl rfl) rfl), _, h23b, ?_⟩
    refine ⟨_, rfl, _, h25a, ?_⟩
    refine ⟨_, mapO_cons rfl (mapO_cons (reify_sl rfl rfl) rfl), _, h25b, ?_⟩
    refine ⟨_, rfl, _, h27a, ?_⟩
    refine ⟨_, mapO_cons rfl (mapO_cons (reify_sl rfl rfl) rfl), _, h27b, ?_⟩
    refine ⟨_, rfl, _, e21 a ha1, ?_⟩
    refine ⟨fun _ => ?_, fun h => absurd h (by decide)⟩
    refine ⟨fun _ => ?_, fun h => absurd ((eqs _).symm.trans h) (by decide)⟩
    refine ⟨_, rfl, _, e21 b hb1, ?_⟩
    refine ⟨fun _ => ?_, fun h => absurd h (by decide)⟩
    refine ⟨fun _ => ?_, fun h => absurd ((eqs _).symm.trans h) (by decide)⟩
    refine ⟨_, rfl, _, e21 c hc1, ?_⟩
    refine ⟨fun _ => ?_, fun h => absurd h (by decide)⟩
    refine ⟨fun _ => ?_, fun h => absurd ((eqs _).symm.trans h) (by decide)⟩
    exact ⟨_, rfl, _, den22, rfl⟩

end Go.Proofs.Water
