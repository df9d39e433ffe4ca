/- Plain laws: a shore measured from its other end, or moved; The law's function WaterTurned returns true. No condition. -/
import Derived.Test.YtnedncdhnggooaaDoorPackWJ

namespace Go.Proofs.Water
open Go.V Go.Proofs

/-! ### Shores that are alike -/

/-- One shore with samples is another one, told otherwise. -/
structure Eqv (s : Sh) (l : List Smp) (s' : Sh) (f : Smp → Smp) : Prop where
  fd : ∀ x, (f x).found = x.found
  yl : s'.yards.length = s.yards.length
  sp : ∀ m q, q ∈ s'.spills m ↔ q ∈ s.spills m
  g : ∀ d ∈ drs s.drifts, ∃ d' ∈ drs s'.drifts, ∀ q : Q, q.1 < s.yards.length → ∀ x ∈ l, s'.inS d' q.1 q.2.1 q.2.2 (f x) = s.inS d q.1 q.2.1 q.2.2 x
  g' : ∀ d' ∈ drs s'.drifts, ∃ d ∈ drs s.drifts, ∀ q : Q, q.1 < s.yards.length → ∀ x ∈ l, s'.inS d' q.1 q.2.1 q.2.2 (f x) = s.inS d q.1 q.2.1 q.2.2 x

section
variable {s s' : Sh} {l : List Smp} {f : Smp → Smp}

theorem Eqv.to (E : Eqv s l s' f) {d d' : List Int} (h : ∀ q : Q, q.1 < s.yards.length → ∀ x ∈ l, s'.inS d' q.1 q.2.1 q.2.2 (f x) = s.inS d q.1 q.2.1 q.2.2 x) : Tr s d l s' d' (l.map f) :=
  ⟨fun x' hx' hf => by
    obtain ⟨x, hx, rfl⟩ := List.mem_map.1 hx'
    exact ⟨x, hx, by rw [← E.fd]; exact hf, fun q hq hi => by rw [h q hq x hx]; exact hi⟩,
   fun x' hx' hf => by
    obtain ⟨x, hx, rfl⟩ := List.mem_map.1 hx'
    exact ⟨x, hx, by rw [← E.fd]; exact hf, fun q hq hi => by rw [← h q hq x hx]; exact hi⟩⟩
theorem Eqv.from (E : Eqv s l s' f) {d d' : List Int} (h : ∀ q : Q, q.1 < s.yards.length → ∀ x ∈ l, s'.inS d' q.1 q.2.1 q.2.2 (f x) = s.inS d q.1 q.2.1 q.2.2 x) : Tr s' d' (l.map f) s d l :=
  ⟨fun x hx hf => ⟨f x, List.mem_map.2 ⟨x, hx, rfl⟩, by rw [E.fd]; exact hf, fun q hq hi => by rw [← h q (by rw [← E.yl]; exact hq) x hx]; exact hi⟩,
   fun x hx hf => ⟨f x, List.mem_map.2 ⟨x, hx, rfl⟩, by rw [E.fd]; exact hf, fun q hq hi => by rw [h q (by rw [← E.yl]; exact hq) x hx]; exact hi⟩⟩
theorem Eqv.all (E : Eqv s l s' f) : s'.all = s.all := by unfold Sh.all; rw [E.yl]
theorem Eqv.expl (E : Eqv s l s' f) (hl : l.length ≤ 8) (m : Nat) : s'.expl (l.map f) m = s.expl l m := by
  have hl' : (l.map f).length ≤ 8 := by simp; exact hl
  apply Bool.eq_iff_iff.2
  rw [expl_iff hl', expl_iff hl]
  constructor
  · rintro ⟨d', hd', h1⟩
    obtain ⟨d, hd, h⟩ := E.g' d' hd'
    exact ⟨d, hd, (E.from h).expl (fun q hq => (E.sp m q).1 hq) h1⟩
  · rintro ⟨d, hd, h1⟩
    obtain ⟨d', hd', h⟩ := E.g d hd
    exact ⟨d', hd', (E.to h).expl (fun q hq => (E.sp m q).2 hq) h1⟩
theorem Eqv.canAt (E : Eqv s l s' f) {d d' : List Int} (h : ∀ q : Q, q.1 < s.yards.length → ∀ x ∈ l, s'.inS d' q.1 q.2.1 q.2.2 (f x) = s.inS d q.1 q.2.1 q.2.2 x) {x : Smp} (hx : x ∈ l) (y : Nat) :
    s'.canAt d' (l.map f) (f x) y = s.canAt d l x y := by
  apply Bool.eq_iff_iff.2
  constructor
  · intro hc
    exact (E.from h).canAt (fun q hq => by rw [E.all] at hq; exact (E.sp _ q).1 hq) (fun q hq hi => by rw [← h q (by rw [← E.yl]; exact hq) x hx]; exact hi) hc
  · intro hc
    exact (E.to h).canAt (fun q hq => by rw [E.all]; exact (E.sp _ q).2 hq) (fun q hq hi => by rw [h q hq x hx]; exact hi) hc
theorem Eqv.can (E : Eqv s l s' f) (h1 : s.openE l = 0) (h2 : s'.openE (l.map f) = 0) {i : Nat} (hi : i < l.length) : s'.can (l.map f) (2 ^ i) = s.can l (2 ^ i) := by
  have o1 := ok_of h1
  have o2 := ok_of h2
  have hx : l[i]? = some l[i] := List.getElem?_eq_getElem hi
  have hx' : (l.map f)[i]? = some (f l[i]) := by simp [hi]
  apply Nat.eq_of_testBit_eq
  intro y
  apply Bool.eq_iff_iff.2
  rw [can_one o2.v o2.ll hx', can_one o1.v o1.ll hx]
  constructor
  · rintro ⟨d', hd', hc⟩
    obtain ⟨d, hd, h⟩ := E.g' d' hd'
    exact ⟨d, hd, by rw [← E.canAt h (List.getElem_mem hi)]; exact hc⟩
  · rintro ⟨d, hd, hc⟩
    obtain ⟨d', hd', h⟩ := E.g d hd
    exact ⟨d', hd', by rw [E.canAt h (List.getElem_mem hi)]; exact hc⟩
theorem Eqv.src (E : Eqv s l s' f) (h1 : s.openE l = 0) (h2 : s'.openE (l.map f) = 0) : s'.can (l.map f) (fnd (l.map f)) = s.can l (fnd l) := by
  have o1 := ok_of h1
  have o2 := ok_of h2
  apply Nat.eq_of_testBit_eq
  intro y
  apply Bool.eq_iff_iff.2
  rw [can_fnd o2.v o2.ll, can_fnd o1.v o1.ll]
  constructor
  · rintro ⟨d', hd', x', hx', hf, hc⟩
    obtain ⟨x, hx, rfl⟩ := List.mem_map.1 hx'
    obtain ⟨d, hd, h⟩ := E.g' d' hd'
    exact ⟨d, hd, x, hx, by rw [← E.fd]; exact hf, by rw [← E.canAt h hx]; exact hc⟩
  · rintro ⟨d, hd, x, hx, hf, hc⟩
    obtain ⟨d', hd', h⟩ := E.g d hd
    exact ⟨d', hd', f x, List.mem_map.2 ⟨x, hx, rfl⟩, by rw [E.fd]; exact hf, by rw [E.canAt h hx]; exact hc⟩

theorem Eqv.enter (E : Eqv s l s' f) (h1 : s.openE l = 0) (h2 : s'.openE (l.map f) = 0) : s'.enterE (l.map f) = s.enterE l := by
  rw [enter_open h1, enter_open h2, E.all, E.expl (ok_of h1).ll]
theorem Eqv.sourcesR (E : Eqv s l s' f) (h1 : s.openE l = 0) (h2 : s'.openE (l.map f) = 0) : s'.sourcesR (l.map f) = s.sourcesR l := by
  unfold Sh.sourcesR; rw [E.enter h1 h2, E.src h1 h2]
theorem Eqv.mustR (E : Eqv s l s' f) (h1 : s.openE l = 0) (h2 : s'.openE (l.map f) = 0) : s'.mustR (l.map f) = s.mustR l := by
  have hm : s'.mustL (l.map f) s'.yards.length = s.mustL l s.yards.length := by
    unfold Sh.mustL; rw [E.yl, E.all]; simp only [E.expl (ok_of h1).ll]
  unfold Sh.mustR; rw [E.enter h1 h2, hm]
theorem Eqv.fewestR (E : Eqv s l s' f) (h1 : s.openE l = 0) (h2 : s'.openE (l.map f) = 0) : s'.fewestR (l.map f) = s.fewestR l := by
  have hb : bestN (s'.expl (l.map f)) s'.all (2 ^ s'.yards.length) = bestN (s.expl l) s.all (2 ^ s.yards.length) := by
    rw [E.yl, E.all]
    exact bestN_congr (fun k => E.expl (ok_of h1).ll k) _
  unfold Sh.fewestR; rw [E.enter h1 h2, hb]
theorem Eqv.canR (E : Eqv s l s' f) (h1 : s.openE l = 0) (h2 : s'.openE (l.map f) = 0) {i : Nat} (hi : i < l.length) : s'.canR (l.map f) i = s.canR l i := by
  have hg : givenE (l.map f) i = givenE l i := by
    unfold givenE
    have hfa : foundAt (l.map f) ((i : Int)).toNat = foundAt l ((i : Int)).toNat := by
      rw [Int.toNat_natCast]
      unfold foundAt
      simp [hi, E.fd]
    rw [hfa, List.length_map]
  have hfe : s'.foundE (l.map f) i = s.foundE l i := by
    unfold Sh.foundE
    rw [h1, h2, hg]
  have ha : s'.agreedE (l.map f) (s'.foundE (l.map f) i) = s.agreedE l (s.foundE l i) := by
    unfold Sh.agreedE
    rw [hfe, E.all, E.expl (ok_of h1).ll]
  unfold Sh.canR
  rw [ha, Int.toNat_natCast, E.can h1 h2 hi]
end

/-! ### Measured from the other end -/

def Yd.bk (y : Yd) : Yd := ⟨y.name, 100 - y.at', y.kinds⟩
def Sp.bk (b : Sp) : Sp := ⟨-b.hi, -b.lo⟩
def Smp.bk (x : Smp) : Smp := ⟨100 - x.place, x.tide, x.kind, x.found⟩
def Sh.bk (s : Sh) : Sh := ⟨s.yards.map Yd.bk, s.drifts.map Sp.bk, s.spread⟩
def negL (d : List Int) : List Int := d.map fun v => -v
theorem negL_at (d : List Int) (i : Nat) : dAt (negL d) i = - dAt d i := by
  unfold dAt negL
  rw [List.getElem?_map]
  cases d[i]? <;> rfl
theorem negL_neg (d : List Int) : negL (negL d) = d := by
  induction d with
  | nil => rfl
  | cons a d ih =>
    show (- - a) :: negL (negL d) = a :: d
    rw [ih, Int.neg_neg]
theorem negL_sum (d : List Int) (t : Nat) : ∀ k, sumN (negL d) t k = - sumN d t k
  | 0 => rfl
  | k + 1 => by
    show sumN (negL d) t k + dAt (negL d) (t + k) = -(sumN d t k + dAt d (t + k))
    rw [negL_sum d t k, negL_at]; omega
theorem bk_len (s : Sh) : s.bk.yards.length = s.yards.length := List.length_map ..
theorem bk_lenD (s : Sh) : s.bk.drifts.length = s.drifts.length := List.length_map ..
theorem bk_at {s : Sh} {i : Nat} (h : i < s.yards.length) : s.bk.atY i = 100 - s.atY i := by
  unfold Sh.atY Sh.bk
  simp [h, Yd.bk]
theorem bk_kinds (s : Sh) (i : Nat) : s.bk.kindsY i = s.kindsY i := by
  unfold Sh.kindsY Sh.bk
  rw [List.getElem?_map]
  cases s.yards[i]? <;> rfl
theorem inR_flip (v p r : Int) : inR (100 - v) (100 - p - r) (100 - p + r) = inR v (p - r) (p + r) := by
  unfold inR
  apply Bool.eq_iff_iff.2
  simp
  omega
theorem bk_in (s : Sh) (d : List Int) (y k t : Nat) (x : Smp) (hy : y < s.yards.length) : s.bk.inS (negL d) y k t x.bk = s.inS d y k t x := by
  unfold Sh.inS
  rw [bk_at hy, negL_sum]
  have e : 100 - s.atY y + -(sumN d t (x.bk.tide.toNat + 1 - t)) = 100 - (s.atY y + sumN d t (x.tide.toNat + 1 - t)) := by
    show 100 - s.atY y + -(sumN d t (x.tide.toNat + 1 - t)) = _
    omega
  rw [e]
  have e2 := inR_flip (s.atY y + sumN d t (x.tide.toNat + 1 - t)) x.place s.spread
  show ((x.kind == (k : Int)) && (decide ((t : Int) ≤ x.tide) && inR (100 - (s.atY y + sumN d t (x.tide.toNat + 1 - t))) (100 - x.place - s.spread) (100 - x.place + s.spread))) = _
  rw [e2]
theorem bk_drs {s : Sh} {d : List Int} (h : d ∈ drs s.drifts) : negL d ∈ drs s.bk.drifts := by
  obtain ⟨h1, h2⟩ := drs_mem h
  refine drs_in (by rw [bk_lenD]; unfold negL; simp [h1]) fun i b hb => ?_
  unfold Sh.bk at hb
  rw [List.getElem?_map] at hb
  cases hs : s.drifts[i]? with
  | none => rw [hs] at hb; cases hb
  | some c =>
    rw [hs] at hb
    cases hb
    have h3 := h2 i c hs
    rw [negL_at]
    unfold Sp.bk
    simp only
    omega
theorem bk_drs' {s : Sh} {d : List Int} (h : d ∈ drs s.bk.drifts) : negL d ∈ drs s.drifts := by
  obtain ⟨h1, h2⟩ := drs_mem h
  refine drs_in (by rw [bk_lenD] at h1; unfold negL; simp [h1]) fun i b hb => ?_
  have h3 := h2 i b.bk (by unfold Sh.bk; rw [List.getElem?_map, hb]; rfl)
  rw [negL_at]
  unfold Sp.bk at h3
  simp only at h3
  omega
theorem bk_spills (s : Sh) (m : Nat) (q : Q) : q ∈ s.bk.spills m ↔ q ∈ s.spills m := by
  rw [spills_iff, spills_iff, bk_len, bk_lenD, bk_kinds]
theorem bk_eqv (s : Sh) (l : List Smp) : Eqv s l s.bk Smp.bk :=
  ⟨fun _ => rfl, bk_len s, bk_spills s, fun d hd => ⟨negL d, bk_drs hd, fun q hq x _ => bk_in s d _ _ _ x hq⟩,
   fun d' hd' => ⟨negL d', bk_drs' hd', fun q hq x _ => by have := bk_in s (negL d') q.1 q.2.1 q.2.2 x hq; rw [negL_neg] at this; exact this⟩⟩
theorem bk_open {s : Sh} {l : List Smp} (h : s.openE l = 0) : s.bk.openE (l.map Smp.bk) = 0 := by
  obtain ⟨hv, hn, hl, hx⟩ := (open_iff s l).1 h
  refine (open_iff _ _).2 ⟨⟨by rw [bk_len]; exact hv.yl, by rw [bk_lenD]; exact hv.dl, hv.sp, fun y hy => ?_, fun b hb => ?_⟩, ?_, by simp; exact hl, fun x hx' => ?_⟩
  · obtain ⟨z, hz, rfl⟩ := List.mem_map.1 hy
    have := hv.y z hz
    unfold Yd.bk
    simp only
    omega
  · obtain ⟨z, hz, rfl⟩ := List.mem_map.1 hb
    have := hv.d z hz
    unfold Sp.bk
    simp only
    omega
  · have e : s.bk.yards.map Yd.name = s.yards.map Yd.name := by unfold Sh.bk; rw [List.map_map]; rfl
    rw [e]; exact hn
  · obtain ⟨z, hz, rfl⟩ := List.mem_map.1 hx'
    have := hx z hz
    unfold Sh.okX at this ⊢
    rw [bk_lenD]
    unfold Smp.bk
    simp only
    omega

/-! ### Moved -/

def Yd.mv (n : Int) (y : Yd) : Yd := ⟨y.name, y.at' + n, y.kinds⟩
def Smp.mv (n : Int) (x : Smp) : Smp := ⟨x.place + n, x.tide, x.kind, x.found⟩
def Sh.mv (s : Sh) (n : Int) : Sh := ⟨s.yards.map (Yd.mv n), s.drifts, s.spread⟩
theorem mv_len (s : Sh) (n : Int) : (s.mv n).yards.length = s.yards.length := List.length_map ..
theorem mv_at {s : Sh} {n : Int} {i : Nat} (h : i < s.yards.length) : (s.mv n).atY i = s.atY i + n := by
  unfold Sh.atY Sh.mv
  simp [h, Yd.mv]
theorem mv_kinds (s : Sh) (n : Int) (i : Nat) : (s.mv n).kindsY i = s.kindsY i := by
  unfold Sh.kindsY Sh.mv
  rw [List.getElem?_map]
  cases s.yards[i]? <;> rfl
theorem mv_in (s : Sh) (n : Int) (d : List Int) (y k t : Nat) (x : Smp) (hy : y < s.yards.length) : (s.mv n).inS d y k t (x.mv n) = s.inS d y k t x := by
  have e : ∀ a v p r : Int, inR (a + n + v) (p + n - r) (p + n + r) = inR (a + v) (p - r) (p + r) := fun a v p r => by
    unfold inR
    apply Bool.eq_iff_iff.2
    simp
    omega
  unfold Sh.inS
  rw [mv_at hy]
  show ((x.kind == (k : Int)) && (decide ((t : Int) ≤ x.tide) && inR (s.atY y + n + sumN d t (x.tide.toNat + 1 - t)) (x.place + n - s.spread) (x.place + n + s.spread))) = _
  rw [e]
theorem mv_spills (s : Sh) (n : Int) (m : Nat) (q : Q) : q ∈ (s.mv n).spills m ↔ q ∈ s.spills m := by
  rw [spills_iff, spills_iff, mv_len, mv_kinds]
  rfl
theorem mv_eqv (s : Sh) (l : List Smp) (n : Int) : Eqv s l (s.mv n) (Smp.mv n) :=
  ⟨fun _ => rfl, mv_len s n, mv_spills s n, fun d hd => ⟨d, hd, fun _ hq x _ => mv_in s n d _ _ _ x hq⟩, fun d hd => ⟨d, hd, fun _ hq x _ => mv_in s n d _ _ _ x hq⟩⟩

end Go.Proofs.Water

namespace Go.Proofs.Water
open Go.V Go.Proofs

theorem take_map_snoc {α β : Type} {f : α → β} {l : List α} {k : Nat} (h : k < l.length) {x : α} (hx : l[k] = x) : (l.take (k + 1)).map f = (l.take k).map f ++ [f x] := by
  rw [List.take_succ_eq_append_getElem h, List.map_append, hx]; rfl
theorem canR_small (s : Sh) (l : List Smp) (n : Int) : (s.canR l n).1.length < 1000000 := canR_len s l n

set_option maxRecDepth 16000 in
set_option maxHeartbeats 16000000 in
theorem den13 (s : Sh) (l : List Smp) (x0 x1 : Int) (hx0 : 0 ≤ x0 ∧ x0 < 256) (hx1 : 0 ≤ x1 ∧ x1 < 256) : DN 13 [.agg s.enc, .list 4 (l.map Smp.enc), .agg [.int .u8 x0, .int .u8 x1]] (.bool true) := by
  refine mk Tryd.func13 Tryd.call13 rfl rfl ?_
  have eqs : ∀ n : Int, (n == n) = true := fun n => by simp
  have nes : ∀ n : Int, (n != n) = false := fun n => by simp
  have h43 := den43 s l
  have hl8 := smp_lenI l
  by_cases ho : s.openE l = 0
  rotate_left
  · obtain ⟨e, he⟩ : ∃ e, s.openE l = e := ⟨_, rfl⟩
    rw [he] at h43 ho
    refine ⟨_, rfl, _, h43, ?_⟩
    refine ⟨fun _ => ⟨_, rfl, _, den22, rfl⟩, fun h => absurd (by simpa using h) ho⟩
  rw [ho] at h43
  have hok := ok_of ho
  have hv := hok.v
  have hll := hok.ll
  have hyl := hv.yl
  have hdl := hv.dl
  refine ⟨_, rfl, _, h43, ?_⟩
  refine ⟨fun h => absurd h (by decide), fun _ => ?_⟩
  have hr0 := tmod_range hx0.1 (k := 20) (by decide)
  obtain ⟨w, hw⟩ : ∃ w : Int, x0.tmod 20 = w := ⟨_, rfl⟩
  rw [hw] at hr0
  refine ⟨⟨by decide, by decide⟩, ?_⟩
  refine ⟨x0, wrap64 (by omega) (by omega), ?_⟩
  refine ⟨by decide, w, hw, ?_⟩
  refine Or.inr (Or.inl ⟨10, [3, 4, 5, 6, 7], by kernel_rfl, ?_⟩)
  refine ⟨⟨rfl, rfl, rfl, rfl, rfl, trivial⟩, ?_⟩
  refine ⟨trivial, ?_⟩
  -- the yards
  refine ⟨[1, 3, 5, 7, 8, 9, 10], 4, [(.cell 2 0, 3), (.cell 3 0, 3)], fun σ => ∃ (k g g' : Nat), k ≤ s.yards.length ∧
    σ = ⟨[(1, .list 4 (l.map Smp.enc)), (3, .loc 0 0), (5, .loc 1 0), (7, .int .i64 w), (8, .loc 2 0), (9, .loc 3 0), (10, .int .i64 k)],
      [.flat false s.enc, .flat false [.int .u8 x0, .int .u8 x1], .flat false [.sl 4 g 0 (((s.yards.take k).map Yd.bk).map Yd.enc).length, .nils, .int .i64 s.spread],
       .flat false [.sl 5 g' 0 (((s.yards.take k).map (Yd.mv w)).map Yd.enc).length, .list 2 (s.drifts.map Sp.enc), .int .i64 s.spread],
       .rows false g 3 (((s.yards.take k).map Yd.bk).map Yd.enc), .rows false g' 3 (((s.yards.take k).map (Yd.mv w)).map Yd.enc)], .non⟩,
    fun σ => (1000 - slotI 10 σ).toNat, rfl, ⟨rfl, rfl⟩, ⟨0, 0, 0, Nat.zero_le _, rfl⟩, ?_⟩
  rintro σ ⟨k, g, g', hk, rfl⟩
  refine ⟨fun h3 => ?_, fun h3 => ?_⟩
  · have h3 := of_decide_eq_true h3
    rw [yd_len] at h3
    have hk' : k < s.yards.length := by omega
    obtain ⟨y, hyk⟩ : ∃ y, s.yards[k] = y := ⟨_, rfl⟩
    have hrow : (s.yards.map Yd.enc)[((k : Int)).toNat]? = some (y.enc) := by simp [hk', hyk]
    have hyv := hv.y y (by rw [← hyk]; exact List.getElem_mem hk')
    have hc1 : ((s.yards.take k).map Yd.bk).map Yd.enc ++ [[D.str y.name, .int .i64 (100 - y.at'), .int .i64 y.kinds]] = ((s.yards.take (k + 1)).map Yd.bk).map Yd.enc := by
      rw [take_map_snoc (f := Yd.bk) hk' hyk, List.map_append]; rfl
    have hc2 : ((s.yards.take k).map (Yd.mv w)).map Yd.enc ++ [[D.str y.name, .int .i64 (y.at' + w), .int .i64 y.kinds]] = ((s.yards.take (k + 1)).map (Yd.mv w)).map Yd.enc := by
      rw [take_map_snoc (f := Yd.mv w) hk' hyk, List.map_append]; rfl
    have hb1 : ((((s.yards.take k).map Yd.bk).map Yd.enc).length + 1) * 32 ≤ mostBytes := by
      rw [List.length_map, List.length_map, List.length_take]; unfold mostBytes; omega
    have hb2 : ((((s.yards.take k).map (Yd.mv w)).map Yd.enc).length + 1) * 32 ≤ mostBytes := by
      rw [List.length_map, List.length_map, List.length_take]; unfold mostBytes; omega
    refine Or.inr (Or.inl ⟨12, [5, 6, 7, 8, 9], by kernel_rfl, ?_⟩)
    refine ⟨by omega, _, hrow, ?_⟩
    refine ⟨by omega, _, hrow, ?_⟩
    refine ⟨⟨rfl, rfl, rfl, ⟨by omega, _, hrow, rfl⟩, rfl, trivial⟩, ?_⟩
    refine ⟨trivial, ?_⟩
    refine Or.inr (Or.inl ⟨7, [3, 4, 5, 6], by kernel_rfl, ?_⟩)
    refine ⟨100 - y.at', wrap64 (by omega) (by omega), ?_⟩
    refine ⟨y.at' + w, wrap64 (by omega) (by omega), ?_⟩
    refine ⟨⟨rfl, rfl, rfl, ⟨_, wrap64 (by omega) (by omega), rfl⟩, trivial⟩, ?_⟩
    refine ⟨⟨rfl, rfl, rfl, ⟨_, wrap64 (by omega) (by omega), rfl⟩, trivial⟩, ?_⟩
    refine ⟨trivial, ?_⟩
    refine ⟨trivial, ?_⟩
    refine Or.inr (Or.inr ⟨[0, 1, 2, 3, 5, 6, 7, 8, 4, 10, 9, 11, 12, 13], 8, [4, 5, 6, 7, 9], by kernel_rfl, ?_⟩)
    refine ⟨trivial, iff' (by rw [beq_self]; rfl) ⟨rfl, hb1, _, hc1, ?_⟩⟩
    refine ⟨⟨rfl, rfl, rfl, ⟨_, rfl, rfl⟩, trivial⟩, ?_⟩
    refine ⟨⟨rfl, rfl, rfl, rfl, ⟨_, rfl, rfl⟩, trivial⟩, ?_⟩
    refine ⟨trivial, iff' (by rw [beq_self]; rfl) ⟨rfl, hb2, _, hc2, ?_⟩⟩
    refine ⟨⟨rfl, rfl, rfl, trivial⟩, ?_⟩
    refine ⟨⟨rfl, rfl, trivial⟩, ?_⟩
    refine ⟨trivial, ?_⟩
    refine ⟨trivial, ?_⟩
    refine ⟨(k : Int) + 1, wrap64 (by omega) (by omega), ?_⟩
    exact ⟨⟨rfl, rfl⟩, ⟨k + 1, g + 1, g' + 1, hk', rfl⟩, by show (1000 - ((k : Int) + 1)).toNat < (1000 - (k : Int)).toNat; omega⟩
  replace h3 := of_decide_eq_false h3
  rw [yd_len] at h3
  have hk' : k = s.yards.length := by omega
  rw [hk', List.take_length]
  clear h3 hk' hk k
  obtain ⟨RB, eRB⟩ : ∃ R, (s.yards.map Yd.bk).map Yd.enc = R := ⟨_, rfl⟩
  obtain ⟨RM, eRM⟩ : ∃ R, (s.yards.map (Yd.mv w)).map Yd.enc = R := ⟨_, rfl⟩
  rw [eRB, eRM]
  -- the drifts
  refine ⟨[1, 3, 5, 7, 8, 9, 13], 6, [(.cell 2 1, 2)], fun σ => ∃ (t g2 : Nat), t ≤ s.drifts.length ∧
    σ = ⟨[(1, .list 4 (l.map Smp.enc)), (3, .loc 0 0), (5, .loc 1 0), (7, .int .i64 w), (8, .loc 2 0), (9, .loc 3 0), (13, .int .i64 t)],
      [.flat false s.enc, .flat false [.int .u8 x0, .int .u8 x1], .flat false [.sl 4 g 0 RB.length, .sl 6 g2 0 (((s.drifts.take t).map Sp.bk).map Sp.enc).length, .int .i64 s.spread],
       .flat false [.sl 5 g' 0 RM.length, .list 2 (s.drifts.map Sp.enc), .int .i64 s.spread],
       .rows false g 3 RB, .rows false g' 3 RM, .rows false g2 2 (((s.drifts.take t).map Sp.bk).map Sp.enc)], .non⟩,
    fun σ => (1000 - slotI 13 σ).toNat, rfl, ⟨rfl, rfl⟩, ⟨0, 0, Nat.zero_le _, rfl⟩, ?_⟩
  rintro σ ⟨t, g2, ht, rfl⟩
  refine ⟨fun h4 => ?_, fun h4 => ?_⟩
  · have h4 := of_decide_eq_true h4
    rw [sp_len] at h4
    have ht' : t < s.drifts.length := by omega
    obtain ⟨b, hbt⟩ : ∃ b, s.drifts[t] = b := ⟨_, rfl⟩
    have hrow : (s.drifts.map Sp.enc)[((t : Int)).toNat]? = some (b.enc) := by simp [ht', hbt]
    have hb := hv.d b (by rw [← hbt]; exact List.getElem_mem ht')
    have hc1 : ((s.drifts.take t).map Sp.bk).map Sp.enc ++ [[D.int .i64 (-b.hi), .int .i64 (-b.lo)]] = ((s.drifts.take (t + 1)).map Sp.bk).map Sp.enc := by
      rw [take_map_snoc (f := Sp.bk) ht' hbt, List.map_append]; rfl
    have hb1 : ((((s.drifts.take t).map Sp.bk).map Sp.enc).length + 1) * 16 ≤ mostBytes := by
      rw [List.length_map, List.length_map, List.length_take]; unfold mostBytes; omega
    refine Or.inl ⟨by kernel_rfl, ?_⟩
    refine ⟨by omega, _, hrow, ?_⟩
    refine ⟨-b.hi, by rw [show (0 : Int) - b.hi = -b.hi by omega]; exact wrap64 (by omega) (by omega), ?_⟩
    refine ⟨by omega, _, hrow, ?_⟩
    refine ⟨-b.lo, by rw [show (0 : Int) - b.lo = -b.lo by omega]; exact wrap64 (by omega) (by omega), ?_⟩
    refine ⟨_, rfl, _, den49 (-b.hi) (-b.lo), ?_⟩
    refine ⟨trivial, iff' (by rw [beq_self]; rfl) ⟨rfl, hb1, _, hc1, ?_⟩⟩
    refine ⟨(t : Int) + 1, wrap64 (by omega) (by omega), ?_⟩
    exact ⟨⟨rfl, rfl⟩, ⟨t + 1, g2 + 1, ht', rfl⟩, by show (1000 - ((t : Int) + 1)).toNat < (1000 - (t : Int)).toNat; omega⟩
  replace h4 := of_decide_eq_false h4
  rw [sp_len] at h4
  have ht' : t = s.drifts.length := by omega
  rw [ht', List.take_length]
  clear h4 ht' ht t
  obtain ⟨RD, eRD⟩ : ∃ R, (s.drifts.map Sp.bk).map Sp.enc = R := ⟨_, rfl⟩
  rw [eRD]
  -- the samples
  refine ⟨[1, 3, 5, 7, 8, 9, 14, 15, 16], 7, [(.slot 14, 4), (.slot 15, 4)], fun σ => ∃ (i g3 g4 : Nat), i ≤ l.length ∧
    σ = ⟨[(1, .list 4 (l.map Smp.enc)), (3, .loc 0 0), (5, .loc 1 0), (7, .int .i64 w), (8, .loc 2 0), (9, .loc 3 0), (14, .sl 7 g3 0 (((l.take i).map Smp.bk).map Smp.enc).length), (15, .sl 8 g4 0 (((l.take i).map (Smp.mv w)).map Smp.enc).length), (16, .int .i64 i)],
      [.flat false s.enc, .flat false [.int .u8 x0, .int .u8 x1], .flat false [.sl 4 g 0 RB.length, .sl 6 g2 0 RD.length, .int .i64 s.spread],
       .flat false [.sl 5 g' 0 RM.length, .list 2 (s.drifts.map Sp.enc), .int .i64 s.spread],
       .rows false g 3 RB, .rows false g' 3 RM, .rows false g2 2 RD, .rows false g3 4 (((l.take i).map Smp.bk).map Smp.enc), .rows false g4 4 (((l.take i).map (Smp.mv w)).map Smp.enc)], .non⟩,
    fun σ => (1000 - slotI 16 σ).toNat, rfl, ⟨rfl, rfl⟩, ⟨0, 0, 0, Nat.zero_le _, rfl⟩, ?_⟩
  rintro σ ⟨i, g3, g4, hi, rfl⟩
  refine ⟨fun h5 => ?_, fun h5 => ?_⟩
  · have h5 := of_decide_eq_true h5
    rw [hl8] at h5
    have hi' : i < l.length := by omega
    obtain ⟨z, hzi⟩ : ∃ z, l[i] = z := ⟨_, rfl⟩
    have hrow : (l.map Smp.enc)[((i : Int)).toNat]? = some (z.enc) := by simp [hi', hzi]
    have hzx := hok.x z (by rw [← hzi]; exact List.getElem_mem hi')
    have hc1 : ((l.take i).map Smp.bk).map Smp.enc ++ [[D.int .i64 (100 - z.place), .int .i64 z.tide, .int .i64 z.kind, .bool z.found]] = ((l.take (i + 1)).map Smp.bk).map Smp.enc := by
      rw [take_map_snoc (f := Smp.bk) hi' hzi, List.map_append]; rfl
    have hc2 : ((l.take i).map (Smp.mv w)).map Smp.enc ++ [[D.int .i64 (z.place + w), .int .i64 z.tide, .int .i64 z.kind, .bool z.found]] = ((l.take (i + 1)).map (Smp.mv w)).map Smp.enc := by
      rw [take_map_snoc (f := Smp.mv w) hi' hzi, List.map_append]; rfl
    have hb1 : ((((l.take i).map Smp.bk).map Smp.enc).length + 1) * 32 ≤ mostBytes := by
      rw [List.length_map, List.length_map, List.length_take]; unfold mostBytes; omega
    have hb2 : ((((l.take i).map (Smp.mv w)).map Smp.enc).length + 1) * 32 ≤ mostBytes := by
      rw [List.length_map, List.length_map, List.length_take]; unfold mostBytes; omega
    refine Or.inr (Or.inl ⟨10, [4, 5, 6, 7], by kernel_rfl, ?_⟩)
    refine ⟨by omega, _, hrow, ?_⟩
    refine ⟨by omega, _, hrow, ?_⟩
    refine ⟨⟨rfl, rfl, ⟨by omega, _, hrow, rfl⟩, rfl, trivial⟩, ?_⟩
    refine ⟨trivial, ?_⟩
    refine Or.inr (Or.inl ⟨7, [3, 4, 5, 6], by kernel_rfl, ?_⟩)
    refine ⟨100 - z.place, wrap64 (by omega) (by omega), ?_⟩
    refine ⟨z.place + w, wrap64 (by omega) (by omega), ?_⟩
    refine ⟨⟨rfl, rfl, rfl, ⟨_, wrap64 (by omega) (by omega), rfl⟩, trivial⟩, ?_⟩
    refine ⟨⟨rfl, rfl, rfl, ⟨_, wrap64 (by omega) (by omega), rfl⟩, trivial⟩, ?_⟩
    refine ⟨trivial, ?_⟩
    refine ⟨trivial, ?_⟩
    refine Or.inr (Or.inr ⟨[0, 1, 2, 4, 5, 6, 3, 7, 8, 9], 6, [3, 4, 5], by kernel_rfl, ?_⟩)
    refine ⟨trivial, iff' (by rw [beq_self]; rfl) ⟨rfl, hb1, _, hc1, ?_⟩⟩
    refine ⟨⟨rfl, rfl, ⟨_, rfl, rfl⟩, trivial⟩, ?_⟩
    refine ⟨trivial, iff' (by rw [beq_self]; rfl) ⟨rfl, hb2, _, hc2, ?_⟩⟩
    refine ⟨⟨rfl, trivial⟩, ?_⟩
    refine ⟨⟨rfl, trivial⟩, ?_⟩
    refine ⟨trivial, ?_⟩
    refine ⟨(i : Int) + 1, wrap64 (by omega) (by omega), ?_⟩
    exact ⟨⟨rfl, rfl⟩, ⟨i + 1, g3 + 1, g4 + 1, hi', rfl⟩, by show (1000 - ((i : Int) + 1)).toNat < (1000 - (i : Int)).toNat; omega⟩
  replace h5 := of_decide_eq_false h5
  rw [hl8] at h5
  have hil : i = l.length := by omega
  rw [hil, List.take_length]
  clear h5 hil hi i
  -- the answers
  have hBo := bk_open ho
  have hBE := bk_eqv s l
  have hME := mv_eqv s l w
  have hBenc : s.bk.enc = [.list 3 RB, .list 2 RD, .int .i64 s.spread] := by rw [← eRB, ← eRD]; rfl
  have hMenc : (s.mv w).enc = [.list 3 RM, .list 2 (s.drifts.map Sp.enc), .int .i64 s.spread] := by rw [← eRM]; rfl
  have k23 := den23 s.bk (l.map Smp.bk)
  have k27 := den27 s.bk (l.map Smp.bk)
  have k19 := fun i : Int => den19 s.bk (l.map Smp.bk) i
  have m43 := den43 (s.mv w) (l.map (Smp.mv w))
  have m23 := den23 (s.mv w) (l.map (Smp.mv w))
  have m25 := den25 (s.mv w) (l.map (Smp.mv w))
  rw [hBE.sourcesR ho hBo] at k23
  rw [hBE.fewestR ho hBo] at k27
  have hk19 : ∀ i : Nat, i < l.length → DN 19 [.agg s.bk.enc, .list 4 ((l.map Smp.bk).map Smp.enc), .int .i64 i] (listD (s.canR l i)) := fun i hi => by
    have := k19 i
    rw [hBE.canR ho hBo hi] at this
    exact this
  have hm23 : (s.mv w).openE (l.map (Smp.mv w)) = 0 → DN 23 [.agg (s.mv w).enc, .list 4 ((l.map (Smp.mv w)).map Smp.enc)] (listD (s.sourcesR l)) ∧ DN 25 [.agg (s.mv w).enc, .list 4 ((l.map (Smp.mv w)).map Smp.enc)] (listD (s.mustR l)) := fun h => by
    rw [hME.sourcesR ho h] at m23
    rw [hME.mustR ho h] at m25
    exact ⟨m23, m25⟩
  clear m23 m25 k19
  rw [hBenc] at k23 k27 hk19
  rw [hMenc] at m43 hm23
  obtain ⟨LB, eLB⟩ : ∃ R, (l.map Smp.bk).map Smp.enc = R := ⟨_, rfl⟩
  obtain ⟨LM, eLM⟩ : ∃ R, (l.map (Smp.mv w)).map Smp.enc = R := ⟨_, rfl⟩
  rw [eLB] at k23 k27 hk19 ⊢
  rw [eLM] at m43 hm23 ⊢
  have a1 := sourcesR_len s l
  have a2 := fewestR_len s l
  have a3 := mustR_len s l
  have h23 := den23 s l
  have h27 := den27 s l
  have h25 := den25 s l
  obtain ⟨⟨a, ae⟩, ha⟩ : ∃ a, s.sourcesR l = a := ⟨_, rfl⟩
  obtain ⟨⟨b, be⟩, hb⟩ : ∃ a, s.fewestR l = a := ⟨_, rfl⟩
  obtain ⟨⟨c, ce⟩, hc⟩ : ∃ a, s.mustR l = a := ⟨_, rfl⟩
  rw [ha] at a1
  rw [hb] at a2
  rw [hc] at a3
  have k23 := listD_congr k23 ha
  have k27 := listD_congr k27 hb
  have h23 := listD_congr h23 ha
  have h27 := listD_congr h27 hb
  have h25 := listD_congr h25 hc
  have hm23 := fun h => (⟨listD_congr (hm23 h).1 ha, listD_congr (hm23 h).2 hc⟩ : DN 23 _ _ ∧ DN 25 _ _)
  refine ⟨_, rfl, _, h23, ?_⟩
  refine ⟨_, mapO_cons (reify_agg (mapO_cons (reify_sl rfl rfl) (mapO_cons (reify_sl rfl rfl) rfl))) (mapO_cons (reify_sl rfl rfl) rfl), _, k23, ?_⟩
  refine ⟨_, rfl, _, h27, ?_⟩
  refine ⟨_, mapO_cons (reify_agg (mapO_cons (reify_sl rfl rfl) (mapO_cons (reify_sl rfl rfl) rfl))) (mapO_cons (reify_sl rfl rfl) rfl), _, k27, ?_⟩
  refine ⟨_, rfl, _, e21 a a1, ?_⟩
  refine ⟨fun h => absurd h (by decide), fun _ => ?_⟩
  refine ⟨fun h => absurd ((nes _).symm.trans h) (by decide), fun _ => ?_⟩
  refine ⟨_, rfl, _, e21 b a2, ?_⟩
  refine ⟨fun h => absurd h (by decide), fun _ => ?_⟩
  refine ⟨fun h => absurd ((nes _).symm.trans h) (by decide), fun _ => ?_⟩
  obtain ⟨oe, hoe⟩ : ∃ oe, (s.mv w).openE (l.map (Smp.mv w)) = oe := ⟨_, rfl⟩
  rw [hoe] at m43 hm23
  refine ⟨_, mapO_cons (reify_agg (mapO_cons (reify_sl rfl rfl) rfl)) (mapO_cons (reify_sl rfl rfl) rfl), _, m43, ?_⟩
  refine ⟨fun h => ?_, fun _ => ?_⟩
  · have h0 : oe = 0 := by simpa using h
    obtain ⟨q23, q25⟩ := hm23 h0
    refine ⟨_, mapO_cons (reify_agg (mapO_cons (reify_sl rfl rfl) rfl)) (mapO_cons (reify_sl rfl rfl) rfl), _, q23, ?_⟩
    refine ⟨_, mapO_cons (reify_agg (mapO_cons (reify_sl rfl rfl) rfl)) (mapO_cons (reify_sl rfl rfl) rfl), _, q25, ?_⟩
    refine ⟨_, rfl, _, h25, ?_⟩
    refine ⟨_, rfl, _, e21 a a1, ?_⟩
    refine ⟨fun h => absurd h (by decide), fun _ => ?_⟩
    refine ⟨fun h => absurd ((nes _).symm.trans h) (by decide), fun _ => ?_⟩
    refine ⟨_, rfl, _, e21 c a3, ?_⟩
    refine ⟨fun h => absurd h (by decide), fun _ => ?_⟩
    refine ⟨fun h => absurd ((nes _).symm.trans h) (by decide), fun _ => ?_⟩
    refine ⟨fun _ => ⟨_, rfl, _, den22, rfl⟩, fun h6 => ?_⟩
    have h6 : (((l.map Smp.enc).length : Int) == 0) = false := h6
    rw [hl8] at h6
    have h6 : ¬ l.length = 0 := by simpa using h6
    have hr1 := tmod_range hx1.1 (k := l.length) (by omega)
    obtain ⟨i, hi⟩ : ∃ i : Nat, x1.tmod l.length = i := ⟨(x1.tmod l.length).toNat, by omega⟩
    rw [hi] at hr1
    have hil : i < l.length := by omega
    obtain ⟨⟨u, ue⟩, hu⟩ : ∃ u, s.canR l i = u := ⟨_, rfl⟩
    have c1 := listD_congr (den19 s l i) hu
    have c2 := listD_congr (hk19 i hil) hu
    have u1 := canR_len s l i
    rw [hu] at u1
    refine ⟨⟨by decide, by decide⟩, ?_⟩
    refine ⟨x1, wrap64 (by omega) (by omega), ?_⟩
    refine ⟨by rw [hl8]; omega, (i : Int), by rw [hl8]; exact hi, ?_⟩
    refine ⟨_, rfl, _, c1, ?_⟩
    refine ⟨_, mapO_cons (reify_agg (mapO_cons (reify_sl rfl rfl) (mapO_cons (reify_sl rfl rfl) rfl))) (mapO_cons (reify_sl rfl rfl) (mapO_cons rfl rfl)), _, c2, ?_⟩
    refine ⟨_, rfl, _, e21 u u1, ?_⟩
    refine ⟨fun _ => ?_, fun h => absurd h (by decide)⟩
    refine ⟨fun _ => ?_, fun h => absurd ((eqs _).symm.trans h) (by decide)⟩
    exact ⟨_, rfl, _, den22, rfl⟩
  · refine ⟨fun _ => ⟨_, rfl, _, den22, rfl⟩, fun h6 => ?_⟩
    have h6 : (((l.map Smp.enc).length : Int) == 0) = false := h6
    rw [hl8] at h6
    have h6 : ¬ l.length = 0 := by simpa using h6
    have hr1 := tmod_range hx1.1 (k := l.length) (by omega)
    obtain ⟨i, hi⟩ : ∃ i : Nat, x1.tmod l.length = i := ⟨(x1.tmod l.length).toNat, by omega⟩
    rw [hi] at hr1
    have hil : i < l.length := by omega
    obtain ⟨⟨u, ue⟩, hu⟩ : ∃ u, s.canR l i = u := ⟨_, rfl⟩
    have c1 := listD_congr (den19 s l i) hu
    have c2 := listD_congr (hk19 i hil) hu
    have u1 := canR_len s l i
    rw [hu] at u1
    refine ⟨⟨by decide, by decide⟩, ?_⟩
    refine ⟨x1, wrap64 (by omega) (by omega), ?_⟩
    refine ⟨by rw [hl8]; omega, (i : Int), by rw [hl8]; exact hi, ?_⟩
    refine ⟨_, rfl, _, c1, ?_⟩
    refine ⟨_, mapO_cons (reify_agg (mapO_cons (reify_sl rfl rfl) (mapO_cons (reify_sl rfl rfl) rfl))) (mapO_cons (reify_sl rfl rfl) (mapO_cons rfl rfl)), _, c2, ?_⟩
    refine ⟨_, rfl, _, e21 u u1, ?_⟩
    refine ⟨fun _ => ?_, fun h => absurd h (by decide)⟩
    refine ⟨fun _ => ?_, fun h => absurd ((eqs _).symm.trans h) (by decide)⟩
    exact ⟨_, rfl, _, den22, rfl⟩

end Go.Proofs.Water
