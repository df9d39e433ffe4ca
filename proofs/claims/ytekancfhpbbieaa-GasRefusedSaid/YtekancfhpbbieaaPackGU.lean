/- Whether levels are a truth's: a contract of the statements' helper. No condition. -/
import Derived.Test.YtekancfhpbbieaaPackGT
import Derived.Test.YtekancfhpbbieaaPackGL
import Derived.Test.YtekancfhpbbieaaPackGD

namespace Go.Proofs.Gas
open Go.V Go.Proofs

set_option maxHeartbeats 2000000 in
theorem den37 (s : Space) (l : List Rd) (hg : s.good l) (f : Nat → Int) (N : Nat) (hN : N ≤ 62) (known : Int) (hp : s.path f (N - 1)) (hfr : ∀ t : Nat, t < N → 0 ≤ f t ∧ f t ≤ 200) (ha : ∀ t : Nat, t < N → (t : Int) ≤ known → s.agrees l t (f t) = true) :
    DN 37 [.agg s.enc, .list 3 (l.map Rd.enc), .list 1 (((List.range N).map f).map encI), .int .i64 known] (.bool true) := by
  refine mk Try.func37 Try.call37 rfl rfl ?_
  have hll : ((l.map Rd.enc).length : Int) = l.length := by simp
  have hlf : ((((List.range N).map f).map encI).length : Int) = N := by simp
  refine ⟨[1, 2, 3, 4, 9], 1, [], fun σ => ∃ t : Nat, t ≤ N ∧ σ = ⟨[(1, .list 3 (l.map Rd.enc)), (2, .list 1 (((List.range N).map f).map encI)), (3, .int .i64 known), (4, .loc 0 0), (9, .int .i64 t)], [.flat false s.enc], .non⟩,
    fun σ => (1000 - slotI 9 σ).toNat, rfl, ⟨rfl, rfl⟩, ⟨0, Nat.zero_le _, rfl⟩, ?_⟩
  rintro σ ⟨t, ht, rfl⟩
  have hgets : ∀ j : Nat, j < N → (((List.range N).map f).map encI)[((j : Int)).toNat]? = some (encI (f j)) := fun j hj => by
    rw [Int.toNat_natCast, List.getElem?_map, List.getElem?_map, List.getElem?_range hj]; rfl
  refine ⟨fun h1 => ?_, fun h1 => ?_⟩
  · have h1 : (t : Int) < N := by rw [← hlf]; exact of_decide_eq_true h1
    have ht' : t < N := by omega
    have hft := hgets t ht'
    have hr0 := hfr t ht'
    refine Or.inl ⟨by kernel_rfl, ?_⟩
    refine ⟨fun h2 => ?_, fun h2 => ?_⟩
    · have h2 : t = 0 := by have : (t : Int) = 0 := by simpa using h2
                            omega
      subst h2
      have hst := inB_iff.1 hp.1
      have hins : inR (f 0) s.start.lo s.start.hi = true := by simp [inR]; omega
      refine ⟨by decide, _, hft, ?_⟩
      refine ⟨_, rfl, _, den35 (f 0) s.start, ?_⟩
      refine ⟨fun h => absurd (show (!(inR (f 0) s.start.lo s.start.hi)) = true from h) (by rw [hins]; decide), fun _ => ?_⟩
      refine ⟨by omega, _, hft, ?_⟩
      refine ⟨fun h => absurd (of_decide_eq_true h) (by omega), fun _ => ?_⟩
      refine ⟨by omega, _, hft, ?_⟩
      refine ⟨fun h => absurd (of_decide_eq_true h) (by omega), fun _ => ?_⟩
      refine ⟨fun h => absurd (of_decide_eq_true h) (by decide), fun _ => ?_⟩
      refine ⟨[1, 2, 3, 4, 9, 13], 1, [], fun σ => ∃ i : Nat, i ≤ l.length ∧ σ = ⟨[(1, .list 3 (l.map Rd.enc)), (2, .list 1 (((List.range N).map f).map encI)), (3, .int .i64 known), (4, .loc 0 0), (9, .int .i64 ((0 : Nat) : Int)), (13, .int .i64 i)], [.flat false s.enc], .non⟩,
        fun σ => (1000 - slotI 13 σ).toNat, rfl, ⟨rfl, rfl⟩, ⟨0, Nat.zero_le _, rfl⟩, ?_⟩
      rintro σ ⟨i, hi, rfl⟩
      refine ⟨fun k1 => ?_, fun k1 => ?_⟩
      · have k1 : (i : Int) < l.length := by rw [← hll]; exact of_decide_eq_true k1
        have hi' : i < l.length := by omega
        obtain ⟨r, hr⟩ : ∃ r, l[i] = r := ⟨_, rfl⟩
        have hrow : (l.map Rd.enc)[((i : Int)).toNat]? = some (r.enc) := by simp [hi', hr]
        have hrm : r ∈ l := by rw [← hr]; exact List.getElem_mem hi'
        have hro := readBad_ok.1 (hg.ok r hrm)
        obtain ⟨x, hx⟩ : ∃ x, s.tools[r.tool.toNat]? = some x := ⟨_, List.getElem?_eq_getElem (by omega)⟩
        have hxe : s.err r.tool = x.2 := by unfold Space.err; rw [hx]
        have hxr := hg.v.err r.tool
        rw [hxe] at hxr
        have hrow2 : (s.tools.map encT)[r.tool.toNat]? = some (encT x) := by rw [List.getElem?_map, hx]; rfl
        have hlen := hg.len
        have hme : (1000 - ((i : Int) + 1)).toNat < (1000 - (i : Int)).toNat := by omega
        refine Or.inl ⟨by kernel_rfl, ?_⟩
        refine ⟨by omega, _, hrow, ?_⟩
        refine ⟨hro.1.1, _, hrow2, ?_⟩
        refine Or.inl ⟨by kernel_rfl, ?_⟩
        refine ⟨by omega, _, hrow, ?_⟩
        refine ⟨fun k2 => ?_, fun k2 => ?_⟩
        · have k2 : r.minute = ((0 : Nat) : Int) := by simpa using k2
          refine ⟨fun k3 => ?_, fun k3 => ?_⟩
          · have k3 : ((0 : Nat) : Int) ≤ known := of_decide_eq_true k3
            have hfit : s.fits ((0 : Nat) : Int) (f 0) r = true := List.all_eq_true.1 (ha 0 (by omega) k3) r hrm
            rw [fits_in, if_pos k2.symm, hxe] at hfit
            have hfit := inB_iff.1 hfit
            have hins : inR r.shown (f 0 - x.2) (f 0 + x.2) = true := by simp [inR]; simp only at hfit; omega
            refine ⟨by omega, _, hrow, ?_⟩
            refine ⟨by omega, _, hft, ?_⟩
            refine ⟨f 0 - x.2, wrap64 (by omega) (by omega), ?_⟩
            refine ⟨by omega, _, hft, ?_⟩
            refine ⟨f 0 + x.2, wrap64 (by omega) (by omega), ?_⟩
            refine ⟨_, rfl, _, den31 _ _, ?_⟩
            refine ⟨_, rfl, _, den35 r.shown ⟨f 0 - x.2, f 0 + x.2⟩, ?_⟩
            refine ⟨fun h => absurd (show (!(inR r.shown (f 0 - x.2) (f 0 + x.2))) = true from h) (by rw [hins]; decide), fun _ => ?_⟩
            refine ⟨(i : Int) + 1, wrap64 (by omega) (by omega), ?_⟩
            exact ⟨⟨rfl, rfl⟩, ⟨i + 1, hi', rfl⟩, hme⟩
          · refine ⟨(i : Int) + 1, wrap64 (by omega) (by omega), ?_⟩
            exact ⟨⟨rfl, rfl⟩, ⟨i + 1, hi', rfl⟩, hme⟩
        · refine ⟨(i : Int) + 1, wrap64 (by omega) (by omega), ?_⟩
          exact ⟨⟨rfl, rfl⟩, ⟨i + 1, hi', rfl⟩, hme⟩
      · refine ⟨((0 : Nat) : Int) + 1, wrap64 (by omega) (by omega), ?_⟩
        exact ⟨⟨rfl, rfl⟩, ⟨0 + 1, by omega, rfl⟩, by show (1000 - (((0 : Nat) : Int) + 1)).toNat < (1000 - ((0 : Nat) : Int)).toNat; omega⟩
    · have h2 : ¬ t = 0 := by have : ¬ (t : Int) = 0 := by simpa using h2
                              omega
      obtain ⟨u, hu⟩ : ∃ u, t = u + 1 := ⟨t - 1, by omega⟩
      have hstep := hp.2 u (by omega)
      rw [← hu] at hstep
      have hfu := hgets u (by omega)
      have hru := hfr u (by omega)
      have hri := riseAt_le hg.v u
      unfold limited at hstep
      refine ⟨by omega, _, hft, ?_⟩
      refine ⟨fun h => absurd (of_decide_eq_true h) (by omega), fun _ => ?_⟩
      refine ⟨by omega, _, hft, ?_⟩
      refine ⟨fun h => absurd (of_decide_eq_true h) (by omega), fun _ => ?_⟩
      refine ⟨fun _ => ?_, fun h => absurd (of_decide_eq_false h) (by omega)⟩
      have hsub : IntKind.i64.wrap ((t : Int) - 1) = (u : Int) := by rw [wrap64 (by omega) (by omega)]; omega
      refine ⟨(u : Int), hsub, ?_⟩
      refine ⟨_, rfl, _, den61 s u (by have := hg.v.blen; omega), ?_⟩
      refine Or.inl ⟨by kernel_rfl, ?_⟩
      refine ⟨(u : Int), hsub, ?_⟩
      refine ⟨by omega, _, hfu, ?_⟩
      refine ⟨f u + (s.riseAt u).lo, wrap64 (by omega) (by omega), ?_⟩
      refine ⟨(u : Int), hsub, ?_⟩
      refine ⟨by omega, _, hfu, ?_⟩
      refine ⟨f u + (s.riseAt u).hi, wrap64 (by omega) (by omega), ?_⟩
      refine ⟨by omega, _, hft, ?_⟩
      refine ⟨fun h => absurd (of_decide_eq_true h) (by omega), fun _ => ?_⟩
      refine ⟨by omega, _, hft, ?_⟩
      refine ⟨fun h => absurd (of_decide_eq_true h) (by omega), fun _ => ?_⟩
      refine ⟨[1, 2, 3, 4, 9, 13], 1, [], fun σ => ∃ i : Nat, i ≤ l.length ∧ σ = ⟨[(1, .list 3 (l.map Rd.enc)), (2, .list 1 (((List.range N).map f).map encI)), (3, .int .i64 known), (4, .loc 0 0), (9, .int .i64 t), (13, .int .i64 i)], [.flat false s.enc], .non⟩,
        fun σ => (1000 - slotI 13 σ).toNat, rfl, ⟨rfl, rfl⟩, ⟨0, Nat.zero_le _, rfl⟩, ?_⟩
      rintro σ ⟨i, hi, rfl⟩
      refine ⟨fun k1 => ?_, fun k1 => ?_⟩
      · have k1 : (i : Int) < l.length := by rw [← hll]; exact of_decide_eq_true k1
        have hi' : i < l.length := by omega
        obtain ⟨r, hr⟩ : ∃ r, l[i] = r := ⟨_, rfl⟩
        have hrow : (l.map Rd.enc)[((i : Int)).toNat]? = some (r.enc) := by simp [hi', hr]
        have hrm : r ∈ l := by rw [← hr]; exact List.getElem_mem hi'
        have hro := readBad_ok.1 (hg.ok r hrm)
        obtain ⟨x, hx⟩ : ∃ x, s.tools[r.tool.toNat]? = some x := ⟨_, List.getElem?_eq_getElem (by omega)⟩
        have hxe : s.err r.tool = x.2 := by unfold Space.err; rw [hx]
        have hxr := hg.v.err r.tool
        rw [hxe] at hxr
        have hrow2 : (s.tools.map encT)[r.tool.toNat]? = some (encT x) := by rw [List.getElem?_map, hx]; rfl
        have hlen := hg.len
        have hme : (1000 - ((i : Int) + 1)).toNat < (1000 - (i : Int)).toNat := by omega
        refine Or.inl ⟨by kernel_rfl, ?_⟩
        refine ⟨by omega, _, hrow, ?_⟩
        refine ⟨hro.1.1, _, hrow2, ?_⟩
        refine Or.inl ⟨by kernel_rfl, ?_⟩
        refine ⟨by omega, _, hrow, ?_⟩
        refine ⟨fun k2 => ?_, fun k2 => ?_⟩
        · have k2 : r.minute = t := by simpa using k2
          refine ⟨fun k3 => ?_, fun k3 => ?_⟩
          · have k3 : (t : Int) ≤ known := of_decide_eq_true k3
            have hfit : s.fits t (f t) r = true := List.all_eq_true.1 (ha t (by omega) k3) r hrm
            rw [fits_in, if_pos k2.symm, hxe] at hfit
            have hfit := inB_iff.1 hfit
            have hins : inR r.shown (f t - x.2) (f t + x.2) = true := by simp [inR]; simp only at hfit; omega
            refine ⟨by omega, _, hrow, ?_⟩
            refine ⟨by omega, _, hft, ?_⟩
            refine ⟨f t - x.2, wrap64 (by omega) (by omega), ?_⟩
            refine ⟨by omega, _, hft, ?_⟩
            refine ⟨f t + x.2, wrap64 (by omega) (by omega), ?_⟩
            refine ⟨_, rfl, _, den31 _ _, ?_⟩
            refine ⟨_, rfl, _, den35 r.shown ⟨f t - x.2, f t + x.2⟩, ?_⟩
            refine ⟨fun h => absurd (show (!(inR r.shown (f t - x.2) (f t + x.2))) = true from h) (by rw [hins]; decide), fun _ => ?_⟩
            refine ⟨(i : Int) + 1, wrap64 (by omega) (by omega), ?_⟩
            exact ⟨⟨rfl, rfl⟩, ⟨i + 1, hi', rfl⟩, hme⟩
          · refine ⟨(i : Int) + 1, wrap64 (by omega) (by omega), ?_⟩
            exact ⟨⟨rfl, rfl⟩, ⟨i + 1, hi', rfl⟩, hme⟩
        · refine ⟨(i : Int) + 1, wrap64 (by omega) (by omega), ?_⟩
          exact ⟨⟨rfl, rfl⟩, ⟨i + 1, hi', rfl⟩, hme⟩
      · refine ⟨(t : Int) + 1, wrap64 (by omega) (by omega), ?_⟩
        exact ⟨⟨rfl, rfl⟩, ⟨t + 1, by omega, rfl⟩, by show (1000 - ((t : Int) + 1)).toNat < (1000 - (t : Int)).toNat; omega⟩
  · show some (D.bool true) = some (D.bool true)
    rfl

end Go.Proofs.Gas
