/- Truths: contracts of the statements' helpers; True readings: a contract of the statements' helper; Truths lie in the levels: the plain law. No condition. -/
import Derived.Test.YtekancfhpbbieaaPackGG
import Derived.Test.YtekancfhpbbieaaPackGC
import Derived.Test.YtekancfhpbbieaaPackGD
import Derived.Test.YtekancfhpbbieaaPackGH

namespace Go.Proofs.Gas
open Go.V Go.Proofs

theorem den32 (s : Space) : DN 32 [.agg s.enc] (.bool (s.err0 == 0)) := by
  refine mk Try.func32 Try.call32 rfl rfl ?_
  exact ⟨_, rfl, _, den16 s, rfl⟩

theorem den35 (n : Int) (x : Sp) : DN 35 [.int .i64 n, .agg x.enc] (.bool (inR n x.lo x.hi)) := by
  refine mk Try.func35 Try.call35 rfl rfl ?_
  refine ⟨fun h => ?_, fun h => ?_⟩
  · show some (D.bool _) = some (D.bool _)
    simp [inR, h]
  · show some (D.bool _) = some (D.bool _)
    simp [inR, h]

/-- A number of a span. -/
def amongE (x : Sp) (n : Int) : Int := x.lo + n.tmod (x.hi - x.lo + 1)
theorem tmod_range {n k : Int} (hn : 0 ≤ n) (hk : 0 < k) : 0 ≤ n.tmod k ∧ n.tmod k < k :=
  ⟨Int.tmod_nonneg k hn, Int.tmod_lt_of_pos n hk⟩
theorem among_in {x : Sp} (hx : x.lo ≤ x.hi) {n : Int} (hn : 0 ≤ n) : x.lo ≤ amongE x n ∧ amongE x n ≤ x.hi := by
  have := tmod_range hn (k := x.hi - x.lo + 1) (by omega)
  unfold amongE
  omega

theorem den40 (x : Sp) (n : Int) (hx : x.lo ≤ x.hi) (hs : x.small) (hn : 0 ≤ n) : DN 40 [.agg x.enc, .int .i64 n] (.int .i64 (amongE x n)) := by
  refine mk Try.func40 Try.call40 rfl rfl ?_
  have h1 := among_in hx hn
  obtain ⟨⟨s1, s2⟩, s3, s4⟩ := hs
  refine Or.inl ⟨by kernel_rfl, ?_⟩
  refine ⟨x.hi - x.lo, wrap64 (by omega) (by omega), ?_⟩
  refine ⟨x.hi - x.lo + 1, wrap64 (by omega) (by omega), ?_⟩
  refine ⟨by omega, _, rfl, ?_⟩
  refine ⟨amongE x n, ?_, ?_⟩
  · have : x.lo + n.tmod (x.hi - x.lo + 1) = amongE x n := rfl
    rw [this]
    exact wrap64 (by omega) (by omega)
  · rfl

def enc16 (v : Int) : List D := [.int .u16 v]
def enc8 (v : Int) : List D := [.int .u8 v]
/-- The n-th number of a list, by turns. -/
def turnE (l : List Int) (n : Int) : Int := match l[(n.tmod l.length).toNat]? with | some v => v | none => 0
def inL (l : List Int) (b : Int) : Prop := ∀ v ∈ l, 0 ≤ v ∧ v < b
theorem turn_in {l : List Int} {b : Int} (h : inL l b) (hb : 0 < b) (n : Int) : 0 ≤ turnE l n ∧ turnE l n < b := by
  unfold turnE
  cases hv : l[(n.tmod l.length).toNat]? with
  | none => exact ⟨Int.le_refl 0, hb⟩
  | some v => exact h v (List.mem_of_getElem? hv)

theorem den38 (l : List Int) (n : Int) (hl : inL l 65536) (hn : 0 ≤ n) : DN 38 [.list 1 (l.map enc16), .int .i64 n] (.int .i64 (turnE l n)) := by
  refine mk Try.func38 Try.call38 rfl rfl ?_
  have hlen : ((l.map enc16).length : Int) = l.length := by simp
  refine ⟨fun h1 => ?_, fun h1 => ?_⟩
  · have h1 : (((l.map enc16).length : Int) == 0) = true := h1
    rw [hlen] at h1
    have h1 : l.length = 0 := by simpa using h1
    have : l = [] := List.eq_nil_of_length_eq_zero h1
    subst this
    show some (D.int .i64 0) = some (D.int .i64 (turnE [] n))
    rfl
  · have h1 : (((l.map enc16).length : Int) == 0) = false := h1
    rw [hlen] at h1
    have h1 : ¬ l.length = 0 := by simpa using h1
    have hr := tmod_range hn (k := l.length) (by omega)
    have hi : (n.tmod l.length).toNat < l.length := by omega
    have hget : l[(n.tmod l.length).toNat]? = some (turnE l n) := by
      unfold turnE
      rw [List.getElem?_eq_getElem hi]
    have hv := turn_in hl (by decide) n
    refine ⟨by rw [hlen]; omega, n.tmod l.length, by rw [hlen], ?_⟩
    refine ⟨hr.1, enc16 (turnE l n), by rw [List.getElem?_map, hget]; rfl, ?_⟩
    exact ⟨_, wrap64 (by omega) (by omega), rfl⟩

/-- The levels of a truth. -/
def Space.tl (s : Space) (x : List Int) : Nat → Int
  | 0 => amongE s.start (turnE x 0)
  | t + 1 => max 0 (min 200 (s.tl x t + amongE (s.riseAt t) (turnE x ((t : Int) + 1))))
theorem tl_in {s : Space} (hv : s.Valid) {x : List Int} (hx : inL x 65536) : ∀ t, 0 ≤ s.tl x t ∧ s.tl x t ≤ 200
  | 0 => by
    have h1 := hv.start
    have h2 := among_in (x := s.start) (by omega) (turn_in hx (by decide) 0).1
    unfold Space.tl; omega
  | t + 1 => by unfold Space.tl; omega

theorem den33 (s : Space) (hv : s.Valid) (x : List Int) (hx : inL x 65536) : DN 33 [.agg s.enc, .list 1 (x.map enc16)] (.list 1 (((List.range 61).map (s.tl x)).map encI)) := by
  refine mk Try.func33 Try.call33 rfl rfl ?_
  have hst := hv.start
  refine Or.inl ⟨by kernel_rfl, ?_⟩
  refine ⟨_, rfl, _, den38 x 0 hx (Int.le_refl 0), ?_⟩
  refine ⟨_, rfl, _, den40 s.start (turnE x 0) (by omega) hv.small.start (turn_in hx (by decide) 0).1, ?_⟩
  refine ⟨[1, 2, 5, 6, 7], 1, [(.slot 6, 1)], fun σ => ∃ (t g : Nat), t ≤ 61 ∧
    σ = ⟨[(1, .list 1 (x.map enc16)), (2, .loc 0 0), (5, .int .i64 (s.tl x t)), (6, .sl 1 g 0 (((List.range t).map (s.tl x)).map encI).length), (7, .int .i64 t)], [.flat false s.enc, .rows false g 1 (((List.range t).map (s.tl x)).map encI)], .non⟩,
    fun σ => (1000 - slotI 7 σ).toNat, rfl, ⟨rfl, rfl⟩, ⟨0, 0, Nat.zero_le _, rfl⟩, ?_⟩
  rintro σ ⟨t, g, ht, rfl⟩
  refine ⟨fun h1 => ?_, fun h1 => ?_⟩
  · have h1 : (t : Int) ≤ 60 := of_decide_eq_true h1
    have hl := tl_in hv hx t
    have hr := riseAt_le hv t
    have hcat : ((List.range t).map (s.tl x)).map encI ++ [[D.int .i64 (s.tl x t)]] = ((List.range (t + 1)).map (s.tl x)).map encI := by
      rw [List.range_succ]; simp [encI]
    have hlen : (((List.range t).map (s.tl x)).map encI).length = t := by simp
    have htu := turn_in hx (by decide) ((t : Int) + 1)
    have ham := among_in (x := s.riseAt t) hr.2.1 htu.1
    refine ⟨trivial, iff' (by rw [beq_self]; rfl) ⟨rfl, ?_, _, hcat, ?_⟩⟩
    · rw [hlen]; show (_ + 1) * 8 ≤ mostBytes; unfold mostBytes; omega
    refine ⟨_, rfl, _, den61 s t (by have := hv.blen; omega), ?_⟩
    refine ⟨(t : Int) + 1, wrap64 (by omega) (by omega), ?_⟩
    refine ⟨_, rfl, _, den38 x ((t : Int) + 1) hx (by omega), ?_⟩
    refine ⟨_, rfl, _, den40 (s.riseAt t) _ hr.2.1 (hv.small.riseAt t) htu.1, ?_⟩
    refine ⟨_, wrap64 (by omega) (by omega), ?_⟩
    refine ⟨_, wrap64 (by omega) (by omega), ?_⟩
    exact ⟨⟨rfl, rfl⟩, ⟨t + 1, g + 1, by omega, rfl⟩, by show (1000 - ((t : Int) + 1)).toNat < (1000 - (t : Int)).toNat; omega⟩
  · have h1 : ¬ (t : Int) ≤ 60 := of_decide_eq_false h1
    obtain rfl : t = 61 := by omega
    show reify [.flat false s.enc, .rows false g 1 (((List.range 61).map (s.tl x)).map encI)] 8 (.sl 1 g 0 (((List.range 61).map (s.tl x)).map encI).length) = _
    exact reify_sl rfl rfl

end Go.Proofs.Gas

namespace Go.Proofs.Gas
open Go.V Go.Proofs

structure Pa where
  levels : List Int
  minutes : List Int
  wrongs : List Int
  now : Int
def Pa.enc (p : Pa) : List D := [.list 1 (p.levels.map enc16), .list 1 (p.minutes.map enc8), .list 1 (p.wrongs.map enc8), .int .u8 p.now]
structure Pa.ok (p : Pa) : Prop where
  levels : inL p.levels 65536
  minutes : inL p.minutes 256
  wrongs : inL p.wrongs 256
  now : 0 ≤ p.now ∧ p.now < 256

/-- A true reading, if levels are these ones. -/
def rdE (s : Space) (f : Nat → Int) (p : Pa) (i : Nat) : Rd :=
  ⟨((p.minutes[i]?).getD 0).tmod 61, (turnE p.wrongs i).tmod s.tools.length,
    amongE ⟨f (((p.minutes[i]?).getD 0).tmod 61).toNat - s.err ((turnE p.wrongs i).tmod s.tools.length), f (((p.minutes[i]?).getD 0).tmod 61).toNat + s.err ((turnE p.wrongs i).tmod s.tools.length)⟩ (turnE p.wrongs i)⟩
def rdsE (s : Space) (f : Nat → Int) (p : Pa) : List Rd := (List.range (min p.minutes.length 12)).map (rdE s f p)

set_option maxHeartbeats 2000000 in
theorem den34 (s : Space) (hv : s.Valid) (f : Nat → Int) (hf : ∀ t, 0 ≤ f t ∧ f t ≤ 200) (p : Pa) (hp : p.ok) :
    DN 34 [.agg s.enc, .list 1 (((List.range 61).map f).map encI), .agg p.enc] (.list 3 ((rdsE s f p).map Rd.enc)) := by
  refine mkW Try.func34 Try.call34 rfl rfl ?_
  have hlm : ((p.minutes.map enc8).length : Int) = p.minutes.length := by simp
  have hlw : ((p.wrongs.map enc8).length : Int) = p.wrongs.length := by simp
  have hlt : ((s.tools.map encT).length : Int) = s.tools.length := by simp
  have hfin : ∀ i g : Nat, i = min p.minutes.length 12 → ∃ d0, reify [.flat false s.enc, .flat false p.enc, .rows false g 3 (((List.range i).map (rdE s f p)).map Rd.enc)] 8 (.sl 2 g 0 (((List.range i).map (rdE s f p)).map Rd.enc).length) = some d0 ∧ Wk d0 (.list 3 ((rdsE s f p).map Rd.enc)) := fun i g h => by
    refine ⟨_, reify_sl rfl rfl, ?_⟩
    rw [h]
    exact .refl _
  refine ⟨[1, 3, 5, 7, 8], 2, [(.slot 7, 3)], fun σ => ∃ (i g : Nat), i ≤ p.minutes.length ∧ i ≤ 12 ∧
    σ = ⟨[(1, .list 1 (((List.range 61).map f).map encI)), (3, .loc 0 0), (5, .loc 1 0), (7, .sl 2 g 0 (((List.range i).map (rdE s f p)).map Rd.enc).length), (8, .int .i64 i)],
      [.flat false s.enc, .flat false p.enc, .rows false g 3 (((List.range i).map (rdE s f p)).map Rd.enc)], .non⟩,
    fun σ => (1000 - slotI 8 σ).toNat, rfl, ⟨rfl, rfl⟩, ⟨0, 0, Nat.zero_le _, Nat.zero_le _, rfl⟩, ?_⟩
  rintro σ ⟨i, g, hi1, hi2, rfl⟩
  refine ⟨fun h1 => ?_, fun h1 => ?_⟩
  · have h1 : (i : Int) < p.minutes.length := by rw [← hlm]; exact of_decide_eq_true h1
    refine ⟨fun h2 => ?_, fun h2 => ?_⟩
    · have h2 : (i : Int) < 12 := of_decide_eq_true h2
      have hi' : i < p.minutes.length := by omega
      have hlen : (((List.range i).map (rdE s f p)).map Rd.enc).length = i := by simp
      obtain ⟨v, hvm⟩ : ∃ v, (p.minutes[i]?).getD 0 = v := ⟨_, rfl⟩
      have hget : p.minutes[i]? = some v := by rw [List.getElem?_eq_getElem hi'] at hvm ⊢; rw [← hvm]; rfl
      have hvr := hp.minutes v (List.mem_of_getElem? hget)
      have hrow : (p.minutes.map enc8)[((i : Int)).toNat]? = some (enc8 v) := by rw [Int.toNat_natCast, List.getElem?_map, hget]; rfl
      obtain ⟨mn, hmn⟩ : ∃ mn, v.tmod 61 = mn := ⟨_, rfl⟩
      have hmr := tmod_range hvr.1 (k := 61) (by decide)
      rw [hmn] at hmr
      have hrow3 : (((List.range 61).map f).map encI)[mn.toNat]? = some (encI (f mn.toNat)) := by
        rw [List.getElem?_map, List.getElem?_map, List.getElem?_range (by omega)]; rfl
      have hfm := hf mn.toNat
      refine ⟨fun h3 => ?_, fun h3 => ?_⟩
      · have h3 : (p.wrongs.length : Int) > 0 := by rw [← hlw]; exact of_decide_eq_true h3
        have hr := tmod_range (n := (i : Int)) (by omega) (k := p.wrongs.length) h3
        have hgw : p.wrongs[((i : Int).tmod p.wrongs.length).toNat]? = some (turnE p.wrongs i) := by
          unfold turnE
          rw [List.getElem?_eq_getElem (by omega)]
        have hww := turn_in hp.wrongs (by decide) i
        refine Or.inl ⟨by kernel_rfl, ?_⟩
        refine ⟨by rw [hlw]; omega, (i : Int).tmod p.wrongs.length, by rw [hlw], ?_⟩
        refine ⟨hr.1, enc8 (turnE p.wrongs i), by rw [List.getElem?_map, hgw]; rfl, ?_⟩
        refine ⟨turnE p.wrongs i, wrap64 (by omega) (by omega), ?_⟩
        have hw : turnE p.wrongs i = turnE p.wrongs i := rfl
        have hwr : 0 ≤ (turnE p.wrongs i : Int) ∧ (turnE p.wrongs i : Int) < 256 := by have := turn_in hp.wrongs (b := 256) (by decide) i; omega
        obtain ⟨tool, htool⟩ : ∃ tool, (turnE p.wrongs i : Int).tmod s.tools.length = tool := ⟨_, rfl⟩
        have htr := tmod_range hwr.1 (k := s.tools.length) (by have := hv.tlen; omega)
        rw [htool] at htr
        obtain ⟨x, hx⟩ : ∃ x, s.tools[tool.toNat]? = some x := ⟨_, List.getElem?_eq_getElem (by omega)⟩
        have hxe : s.err tool = x.2 := by unfold Space.err; rw [hx]
        have hxr := hv.err tool
        rw [hxe] at hxr
        have hrow2 : (s.tools.map encT)[tool.toNat]? = some (encT x) := by rw [List.getElem?_map, hx]; rfl
        refine Or.inl ⟨by kernel_rfl, ?_⟩
        refine ⟨by omega, enc8 v, hrow, ?_⟩
        refine ⟨v, wrap64 (by omega) (by omega), ?_⟩
        refine ⟨by decide, mn, hmn, ?_⟩
        refine ⟨by rw [hlt]; have := hv.tlen; omega, tool, by rw [hlt]; exact htool, ?_⟩
        refine ⟨htr.1, encT x, hrow2, ?_⟩
        refine Or.inl ⟨by kernel_rfl, ?_⟩
        refine ⟨hmr.1, encI (f mn.toNat), hrow3, ?_⟩
        refine ⟨f mn.toNat - x.2, wrap64 (by omega) (by omega), ?_⟩
        refine ⟨hmr.1, encI (f mn.toNat), hrow3, ?_⟩
        refine ⟨f mn.toNat + x.2, wrap64 (by omega) (by omega), ?_⟩
        refine ⟨_, rfl, _, den31 (f mn.toNat - x.2) (f mn.toNat + x.2), ?_⟩
        refine ⟨_, rfl, _, den40 ⟨f mn.toNat - x.2, f mn.toNat + x.2⟩ (turnE p.wrongs i) (by simp only; omega) ⟨⟨by simp only; omega, by simp only; omega⟩, by simp only; omega, by simp only; omega⟩ hwr.1, ?_⟩
        have hrd : rdE s f p i = ⟨mn, tool, amongE ⟨f mn.toNat - x.2, f mn.toNat + x.2⟩ (turnE p.wrongs i)⟩ := by
          unfold rdE
          rw [hw, hvm, hmn, htool, hxe]
        have hcat : ((List.range i).map (rdE s f p)).map Rd.enc ++ [Rd.enc ⟨mn, tool, amongE ⟨f mn.toNat - x.2, f mn.toNat + x.2⟩ (turnE p.wrongs i)⟩] = ((List.range (i + 1)).map (rdE s f p)).map Rd.enc := by
          rw [List.range_succ, ← hrd]; simp
        refine ⟨trivial, iff' (by rw [beq_self]; rfl) ⟨rfl, ?_, _, hcat, ?_⟩⟩
        · rw [hlen]; show (_ + 1) * 24 ≤ mostBytes; unfold mostBytes; omega
        refine ⟨(i : Int) + 1, wrap64 (by omega) (by omega), ?_⟩
        exact ⟨⟨rfl, rfl⟩, ⟨i + 1, g + 1, by omega, by omega, rfl⟩, by show (1000 - ((i : Int) + 1)).toNat < (1000 - (i : Int)).toNat; omega⟩
      · have h3 : ¬ (p.wrongs.length : Int) > 0 := by rw [← hlw]; exact of_decide_eq_false h3
        have hw : turnE p.wrongs i = 0 := by
          have : p.wrongs = [] := List.eq_nil_of_length_eq_zero (by omega)
          rw [this]; rfl
        have hwr : 0 ≤ (0 : Int) ∧ (0 : Int) < 256 := by have := turn_in hp.wrongs (b := 256) (by decide) i; omega
        obtain ⟨tool, htool⟩ : ∃ tool, (0 : Int).tmod s.tools.length = tool := ⟨_, rfl⟩
        have htr := tmod_range hwr.1 (k := s.tools.length) (by have := hv.tlen; omega)
        rw [htool] at htr
        obtain ⟨x, hx⟩ : ∃ x, s.tools[tool.toNat]? = some x := ⟨_, List.getElem?_eq_getElem (by omega)⟩
        have hxe : s.err tool = x.2 := by unfold Space.err; rw [hx]
        have hxr := hv.err tool
        rw [hxe] at hxr
        have hrow2 : (s.tools.map encT)[tool.toNat]? = some (encT x) := by rw [List.getElem?_map, hx]; rfl
        refine Or.inl ⟨by kernel_rfl, ?_⟩
        refine ⟨by omega, enc8 v, hrow, ?_⟩
        refine ⟨v, wrap64 (by omega) (by omega), ?_⟩
        refine ⟨by decide, mn, hmn, ?_⟩
        refine ⟨by rw [hlt]; have := hv.tlen; omega, tool, by rw [hlt]; exact htool, ?_⟩
        refine ⟨htr.1, encT x, hrow2, ?_⟩
        refine Or.inl ⟨by kernel_rfl, ?_⟩
        refine ⟨hmr.1, encI (f mn.toNat), hrow3, ?_⟩
        refine ⟨f mn.toNat - x.2, wrap64 (by omega) (by omega), ?_⟩
        refine ⟨hmr.1, encI (f mn.toNat), hrow3, ?_⟩
        refine ⟨f mn.toNat + x.2, wrap64 (by omega) (by omega), ?_⟩
        refine ⟨_, rfl, _, den31 (f mn.toNat - x.2) (f mn.toNat + x.2), ?_⟩
        refine ⟨_, rfl, _, den40 ⟨f mn.toNat - x.2, f mn.toNat + x.2⟩ (0) (by simp only; omega) ⟨⟨by simp only; omega, by simp only; omega⟩, by simp only; omega, by simp only; omega⟩ hwr.1, ?_⟩
        have hrd : rdE s f p i = ⟨mn, tool, amongE ⟨f mn.toNat - x.2, f mn.toNat + x.2⟩ (0)⟩ := by
          unfold rdE
          rw [hw, hvm, hmn, htool, hxe]
        have hcat : ((List.range i).map (rdE s f p)).map Rd.enc ++ [Rd.enc ⟨mn, tool, amongE ⟨f mn.toNat - x.2, f mn.toNat + x.2⟩ (0)⟩] = ((List.range (i + 1)).map (rdE s f p)).map Rd.enc := by
          rw [List.range_succ, ← hrd]; simp
        refine ⟨trivial, iff' (by rw [beq_self]; rfl) ⟨rfl, ?_, _, hcat, ?_⟩⟩
        · rw [hlen]; show (_ + 1) * 24 ≤ mostBytes; unfold mostBytes; omega
        refine ⟨(i : Int) + 1, wrap64 (by omega) (by omega), ?_⟩
        exact ⟨⟨rfl, rfl⟩, ⟨i + 1, g + 1, by omega, by omega, rfl⟩, by show (1000 - ((i : Int) + 1)).toNat < (1000 - (i : Int)).toNat; omega⟩
    · have h2 : ¬ (i : Int) < 12 := of_decide_eq_false h2
      exact hfin i g (by omega)
  · have h1 : ¬ (i : Int) < p.minutes.length := by rw [← hlm]; exact of_decide_eq_false h1
    exact hfin i g (by omega)

end Go.Proofs.Gas

namespace Go.Proofs.Gas
open Go.V Go.Proofs

/-- Levels that there can be, minute by minute, up to a minute. -/
def Space.path (s : Space) (f : Nat → Int) (N : Nat) : Prop := inB (f 0) s.start = true ∧ ∀ t : Nat, t < N → limited (f t + (s.riseAt t).lo) ≤ f (t + 1) ∧ f (t + 1) ≤ limited (f t + (s.riseAt t).hi)

theorem mem_later {s : Space} {x : Sp} {t n v : Int} (h : inB n x = true) (h1 : limited (n + (s.riseAt t).lo) ≤ v) (h2 : v ≤ limited (n + (s.riseAt t).hi)) : inB v (s.later t x) = true := by
  have hx : ¬ x = none' := fun e => by rw [e, inB_none] at h; cases h
  have hn := inB_iff.1 h
  unfold Space.later
  rw [if_neg hx]
  refine inB_iff.2 ⟨?_, ?_⟩
  · simp only; unfold limited at *; omega
  · simp only; unfold limited at *; omega

theorem path_range {s : Space} (hv : s.Valid) {f : Nat → Int} {N : Nat} (hp : s.path f N) : ∀ t, t ≤ N → 0 ≤ f t ∧ f t ≤ 200
  | 0, _ => by
    have h1 := inB_iff.1 hp.1
    have h2 := hv.start
    omega
  | t + 1, ht => by
    have h1 := hp.2 t (by omega)
    have h2 := limited_small
    unfold limited at h1
    omega

theorem path_lv {s : Space} {l : List Rd} (hv : s.Valid) (hok : ∀ r ∈ l, s.readBad r = 0) {f : Nat → Int} {N : Nat} (hp : s.path f N) {K : Nat} (hK : K ≤ N) (ha : ∀ t : Nat, t ≤ K → s.agrees l t (f t) = true) : ∀ t, t ≤ K → inB (f t) (s.lv (s.seen l) t) = true
  | 0, _ => by
    rw [Space.lv, mem_both, hp.1, Bool.true_and]
    have h1 := path_range hv hp 0 (by omega)
    rw [left_seen hok 0 (f 0) h1]
    exact ha 0 (by omega)
  | t + 1, ht => by
    have ih := path_lv hv hok hp hK ha t (by omega)
    have h1 := hp.2 t (by omega)
    have h2 := path_range hv hp (t + 1) (by omega)
    rw [Space.lv, mem_both, mem_later ih h1.1 h1.2, Bool.true_and, left_seen hok _ _ h2]
    exact ha (t + 1) (by omega)

theorem path_on {s : Space} {f : Nat → Int} {N : Nat} (hp : s.path f N) {now : Nat} {x : Sp} (h : inB (f now) x = true) : ∀ i, now + i ≤ N → inB (f (now + i)) (s.on now x i) = true
  | 0, _ => h
  | i + 1, hi => by
    have ih := path_on hp h i (by omega)
    have h1 := hp.2 (now + i) (by omega)
    have e : ((now + i : Nat) : Int) = (now : Int) + i := by omega
    rw [e] at h1
    exact mem_later ih h1.1 h1.2

theorem untilL_le (lim : Int) : ∀ (xs : List (Int × Sp)) (base last : Int), (∀ (i : Nat) z, xs[i]? = some z → z.1 = base + i) → last < base → ∀ (i : Nat) z, xs[i]? = some z → z.1 ≤ untilL lim xs last → z.2.hi ≤ lim
  | [], _, _, _, _, _, _, h, _ => by simp at h
  | x :: r, base, last, hb, hl, i, z, hz, hle => by
    have hx := hb 0 x rfl
    have hzi := hb i z hz
    unfold untilL at hle
    cases hd : decide (x.2.hi > lim) with
    | true =>
      rw [hd] at hle
      simp only at hle
      omega
    | false =>
      rw [hd] at hle
      simp only at hle
      have hd := of_decide_eq_false hd
      cases i with
      | zero =>
        simp at hz
        subst hz
        omega
      | succ i =>
        refine untilL_le lim r (base + 1) x.1 (fun j w hw => ?_) (by omega) i z (by simpa using hz) hle
        have := hb (j + 1) w (by simpa using hw)
        omega

/-- The numbers of a walk on. -/
theorem follow_base (s : Space) (m : Seen) (k : Int) (f : Nat) (t : Int) (l : Sp) : ∀ (i : Nat) z, (s.follow m k f t l)[i]? = some z → z.1 = t + i := fun i z h => follow_fst s m k f t l i z h

theorem untilL_range (s : Space) (m : Seen) (k t : Int) (ht : 0 ≤ t ∧ t ≤ 60) (l : Sp) : -1 ≤ untilL s.limit (s.follow m k (61 - t).toNat t l) (-1) ∧ untilL s.limit (s.follow m k (61 - t).toNat t l) (-1) ≤ 60 := by
  rcases untilL_mem s.limit (s.follow m k (61 - t).toNat t l) (-1) with h | ⟨z, h1, h2⟩
  · rw [h]; omega
  · rw [h2]
    obtain ⟨i, hi⟩ := List.mem_iff_getElem?.1 h1
    have h3 := follow_fst s m k _ _ _ i z hi
    have h4 := (List.getElem?_eq_some_iff.1 hi).1
    rw [follow_len] at h4
    omega

/-- What Until says: at each minute up to it the levels are at most the limit. -/
theorem until_le {s : Space} (hv : s.Valid) (l : List Rd) {now : Nat} (hn : now ≤ 60) {i : Nat} (hi : now + i ≤ 60) (h : ((now + i : Nat) : Int) ≤ untilL s.limit (s.follow (s.seen l) now (61 - (now : Int)).toNat now (s.lv (s.seen l) now)) (-1)) :
    (s.on now (s.lv (s.seen l) now) i).hi ≤ s.limit := by
  have hbo := both_lv hv (s.seen l) now
  have hg : (s.follow (s.seen l) now (61 - (now : Int)).toNat now (s.lv (s.seen l) now))[i]? = some ((now : Int) + i, s.on now (s.lv (s.seen l) now) i) := by
    rw [follow_get _ _ _ _ _ _ i (by omega), gF_on (s.seen l) now hbo]
  exact untilL_le s.limit _ now (-1) (follow_base s _ _ _ _ _) (by omega) i _ hg (by simp only; omega)

end Go.Proofs.Gas
