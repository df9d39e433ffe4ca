/- Until is -1 just if Refusal has a truth; behind Until there is one. No condition. -/
import Derived.Test.YtekancfhpbbieaaPackGU
import Derived.Test.YtekancfhpbbieaaPackGT
import Derived.Test.YtekancfhpbbieaaPackGP

namespace Go.Proofs.Gas
open Go.V Go.Proofs

set_option maxHeartbeats 4000000 in
theorem den8 (s : Space) (l : List Rd) (m : Int) (hm : 0 ≤ m ∧ m < 256) : DN 8 [.agg s.enc, .list 3 (l.map Rd.enc), .int .u8 m] (.bool true) := by
  refine mk Try.func8 Try.call8 rfl rfl ?_
  refine ⟨_, rfl, _, den36 s l, ?_⟩
  by_cases h0 : s.readE l = 0
  · rw [h0]
    refine ⟨(fun h => nomatch h), fun _ => ?_⟩
    have hg := good_of h0
    have hv := hg.v
    have hlen := hg.len
    have hll : ((l.map Rd.enc).length : Int) = l.length := by simp
    have hmr := tmod_range hm.1 (k := 61) (by decide)
    obtain ⟨now, hnow⟩ : ∃ now : Nat, m.tmod 61 = now := ⟨(m.tmod 61).toNat, by omega⟩
    rw [hnow] at hmr
    have hn60 : now ≤ 60 := by omega
    refine ⟨m, wrap64 (by omega) (by omega), ?_⟩
    refine ⟨by decide, (now : Int), hnow, ?_⟩
    obtain ⟨aN, aS⟩ := answers hg hn60
    have h19 := den19 s l now
    have h22 := den22 s l now
    have hlen' : ∀ (f : Nat → Int) (k : Nat), ((((List.range k).map f).map encI).length : Int) = k := fun f k => by simp
    have hget : ∀ (f : Nat → Int) (k : Nat) (t : Int), 0 ≤ t → t < k → (((List.range k).map f).map encI)[t.toNat]? = some (encI (f t.toNat)) := fun f k t h1 h2 => by
      rw [List.getElem?_map, List.getElem?_map, List.getElem?_range (by omega)]; rfl
    by_cases hX : s.lv (s.seen l) now = none'
    · rw [(aN hX).2] at h19
      rw [refusalE_bad (aN hX).1 (by decide)] at h22
      refine ⟨_, rfl, _, h19, ?_⟩
      refine ⟨_, rfl, _, h22, ?_⟩
      refine ⟨fun _ => ?_, fun h => nomatch h⟩
      refine ⟨fun _ => ?_, fun h => nomatch h⟩
      refine ⟨fun _ => ?_, fun h => nomatch h⟩
      refine ⟨fun _ => ?_, fun h => nomatch h⟩
      refine ⟨fun _ => ?_, fun h => nomatch h⟩
      exact ⟨_, rfl, _, den21, rfl⟩
    · rw [(aS hX).2] at h19
      have hxl := lv_lev hv (s.seen l) now
      by_cases hhi : (s.lv (s.seen l) now).hi > s.limit
      · rw [until_neg s hn60 hhi] at h19
        obtain ⟨f, hf1, hf2, hf3, hf4, hf5⟩ := refusal_truth hg hn60 hX hhi
        rw [hf1] at h22
        have h37 := den37 s l hg f (now + 1) (by omega) now (by rw [Nat.add_sub_cancel]; exact hf2) (fun t ht => hf5 t (by omega)) (fun t ht _ => hf3 t (by omega))
        have hl1 : ((((List.range (now + 1)).map f).map encI).length : Int) = (now : Int) + 1 := by rw [hlen']; omega
        refine ⟨_, rfl, _, h19, ?_⟩
        refine ⟨_, rfl, _, h22, ?_⟩
        refine ⟨(fun h => nomatch h), fun _ => ?_⟩
        refine ⟨fun _ => ?_, fun h => nomatch h⟩
        refine Or.inl ⟨by kernel_rfl, ?_⟩
        refine ⟨fun _ => ?_, fun h => nomatch h⟩
        refine ⟨(now : Int) + 1, wrap64 (by omega) (by omega), ?_⟩
        refine ⟨fun _ => ?_, fun h => absurd (show ((((List.range (now + 1)).map f).map encI).length : Int) = (now : Int) + 1 from hl1) (by simp at h)⟩
        refine ⟨_, rfl, _, h37, ?_⟩
        refine ⟨fun _ => ?_, fun h => nomatch h⟩
        refine ⟨by omega, _, hget f (now + 1) now (by omega) (by omega), ?_⟩
        refine ⟨fun _ => ?_, fun h => absurd (show f now > s.limit from hf4) (of_decide_eq_false h)⟩
        exact ⟨_, rfl, _, den21, rfl⟩
      · obtain ⟨u1, u2⟩ := until_pos s hn60 hhi
        have u3 := untilOn_range s hn60 (s.lv (s.seen l) now)
        obtain ⟨n, hn⟩ : ∃ n, s.untilOn now (s.lv (s.seen l) now) = n := ⟨_, rfl⟩
        rw [hn] at h19 u1 u2 u3
        rw [refusalE_none (aS hX).1 rfl (decide_eq_true (by simp only; omega))] at h22
        refine ⟨_, rfl, _, h19, ?_⟩
        refine ⟨_, rfl, _, h22, ?_⟩
        refine ⟨(fun h => nomatch h), fun _ => ?_⟩
        refine ⟨fun h => absurd (show n = -1 by simpa using h) (by omega), fun _ => ?_⟩
        refine ⟨(fun h => nomatch h), fun _ => ?_⟩
        refine ⟨(fun h => nomatch h), fun _ => ?_⟩
        refine ⟨fun h => absurd (of_decide_eq_true h) (by omega), fun _ => ?_⟩
        refine ⟨fun h => absurd (of_decide_eq_true h) (by omega), fun _ => ?_⟩
        refine ⟨fun h60 => ?_, fun h60 => ?_⟩
        · exact ⟨_, rfl, _, den21, rfl⟩
        have h60 : ¬ n = 60 := by simpa using h60
        obtain ⟨i0, v1, v2, v3⟩ : ∃ i : Nat, now + i ≤ 60 ∧ n + 1 = ((now + i : Nat) : Int) ∧ (s.on now (s.lv (s.seen l) now) i).hi > s.limit := u2.elim (fun h => absurd h h60) id
        refine ⟨[1, 3, 7, 8, 12, 13], 1, [(.slot 12, 3)], fun σ => ∃ i g : Nat, i ≤ l.length ∧
          σ = ⟨[(1, .list 3 (l.map Rd.enc)), (3, .loc 0 0), (7, .int .i64 now), (8, .int .i64 n), (12, .sl 1 g 0 ((kn (l.take i) now).map Rd.enc).length), (13, .int .i64 i)], [.flat false s.enc, .rows false g 3 ((kn (l.take i) now).map Rd.enc)], .non⟩,
          fun σ => (1000 - slotI 13 σ).toNat, rfl, ⟨rfl, rfl⟩, ⟨0, 0, Nat.zero_le _, rfl⟩, ?_⟩
        rintro σ ⟨i, g, hi, rfl⟩
        refine ⟨fun h1 => ?_, fun h1 => ?_⟩
        · have h1 : (i : Int) < l.length := by rw [← hll]; exact of_decide_eq_true h1
          have hi' : i < l.length := by omega
          obtain ⟨r, hr⟩ : ∃ r, l[i] = r := ⟨_, rfl⟩
          have hrow : (l.map Rd.enc)[((i : Int)).toNat]? = some (r.enc) := by simp [hi', hr]
          have htake : l.take (i + 1) = l.take i ++ [r] := by rw [← hr]; simp
          have hme : (1000 - ((i : Int) + 1)).toNat < (1000 - (i : Int)).toNat := by omega
          have hknl : ((kn (l.take i) now).map Rd.enc).length ≤ 12 := by
            rw [List.length_map]
            have := List.length_filter_le (fun r : Rd => decide (r.minute ≤ (now : Int))) (l.take i)
            rw [List.length_take] at this
            unfold kn; omega
          refine ⟨by omega, _, hrow, ?_⟩
          refine ⟨fun h2 => ?_, fun h2 => ?_⟩
          · have h2 : r.minute ≤ now := of_decide_eq_true h2
            have hcat : (kn (l.take i) now).map Rd.enc ++ [r.enc] = (kn (l.take (i + 1)) now).map Rd.enc := by
              rw [htake]; unfold kn; rw [List.filter_append, List.map_append, List.filter_cons, if_pos (by simpa using h2)]; rfl
            refine ⟨by omega, _, hrow, ?_⟩
            refine ⟨trivial, iff' (by rw [beq_self]; rfl) ⟨rfl, ?_, _, hcat, ?_⟩⟩
            · show (_ + 1) * 24 ≤ mostBytes; unfold mostBytes; omega
            refine ⟨(i : Int) + 1, wrap64 (by omega) (by omega), ?_⟩
            exact ⟨⟨rfl, rfl⟩, ⟨i + 1, g + 1, hi', rfl⟩, hme⟩
          · have h2 : ¬ r.minute ≤ now := of_decide_eq_false h2
            have hsame : kn (l.take (i + 1)) now = kn (l.take i) now := by
              rw [htake]; unfold kn; rw [List.filter_append, List.filter_cons, if_neg (by simpa using h2)]; simp
            refine ⟨(i : Int) + 1, wrap64 (by omega) (by omega), ?_⟩
            exact ⟨⟨rfl, rfl⟩, ⟨i + 1, g, hi', by rw [hsame]; rfl⟩, hme⟩
        · have h1 : ¬ (i : Int) < l.length := by rw [← hll]; exact of_decide_eq_false h1
          have hil : l.take i = l := List.take_of_length_le (by omega)
          rw [hil]
          have hgk := kn_good hg now
          have hlk := lv_known hg now i0
          have hne := on_ne hv now hxl hX i0
          obtain ⟨k, hk⟩ : ∃ k, now + i0 = k := ⟨_, rfl⟩
          rw [hk] at v1 v2 hlk
          obtain ⟨f, hf1, hf2, hf3, hf4, hf5⟩ := refusal_truth hgk v1 (by rw [hlk]; exact hne) (by rw [hlk]; exact v3)
          have h22b := den22 s (kn l now) k
          rw [hf1] at h22b
          have h37 := den37 s (kn l now) hgk f (k + 1) (by omega) now (by rw [Nat.add_sub_cancel]; exact hf2) (fun t ht => hf5 t (by omega)) (fun t ht _ => hf3 t (by omega))
          have hl1 : ((((List.range (k + 1)).map f).map encI).length : Int) = n + 2 := by rw [hlen']; omega
          refine ⟨(k : Int), (wrap64 (by omega) (by omega)).trans v2, ?_⟩
          refine ⟨_, mapO_cons rfl (mapO_cons (reify_sl rfl rfl) (mapO_cons rfl rfl)), _, h22b, ?_⟩
          refine Or.inl ⟨by kernel_rfl, ?_⟩
          refine ⟨fun _ => ?_, fun h => nomatch h⟩
          refine ⟨n + 2, wrap64 (by omega) (by omega), ?_⟩
          refine ⟨fun _ => ?_, fun h => absurd (show ((((List.range (k + 1)).map f).map encI).length : Int) = n + 2 from hl1) (by simpa using h)⟩
          refine ⟨_, mapO_cons rfl (mapO_cons (reify_sl rfl rfl) (mapO_cons rfl (mapO_cons rfl rfl))), _, h37, ?_⟩
          refine ⟨fun _ => ?_, fun h => nomatch h⟩
          refine ⟨(k : Int), (wrap64 (by omega) (by omega)).trans v2, ?_⟩
          refine ⟨by omega, _, hget f (k + 1) k (by omega) (by omega), ?_⟩
          refine ⟨fun _ => ?_, fun h => absurd (show f k > s.limit from hf4) (of_decide_eq_false h)⟩
          exact ⟨_, rfl, _, den21, rfl⟩
  · have hb : (s.readE l != 0) = true := by simpa using h0
    refine ⟨fun _ => ?_, fun h => absurd (hb.symm.trans h) (by decide)⟩
    exact ⟨_, rfl, _, den21, rfl⟩

end Go.Proofs.Gas
