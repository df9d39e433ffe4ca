/- Plain laws of truths: what holds of one shore and its samples holds of another one; Plain laws: what a valid shore with samples is; a shore at which some yards alone can spill anything; who must be a source; The law's function WaterMust returns true; The law's function WaterFewest returns true; The law's function WaterMore returns true; The law's function WaterTrue returns true. No condition. -/
import Derived.Test.YtdhdeopenednaaaGreatDoorPackXC
import Derived.Test.YtdhdeopenednaaaGreatDoorPackXD
import Derived.Test.YtdhdeopenednaaaGreatDoorPackXE

namespace Go.Proofs.Water
open Go.V Go.Proofs Go.Proofs.Top

theorem spills_lt {s : Sh} {ys : Nat} {q : Q} (h : q ∈ s.spills ys) : q.1 < s.yards.length :=
  (prefY_mem (k := q.2.1) (t := q.2.2).1 (spills_iff.1 h).1).1

/-- A truth here is one there. -/
structure Tr (s : Sh) (d : List Int) (l : List Smp) (s' : Sh) (d' : List Int) (l' : List Smp) : Prop where
  f : ∀ x' ∈ l', x'.found = true → ∃ x ∈ l, x.found = true ∧ ∀ q : Q, q.1 < s.yards.length → s.inS d q.1 q.2.1 q.2.2 x = true → s'.inS d' q.1 q.2.1 q.2.2 x' = true
  n : ∀ x' ∈ l', x'.found = false → ∃ x ∈ l, x.found = false ∧ ∀ q : Q, q.1 < s.yards.length → s'.inS d' q.1 q.2.1 q.2.2 x' = true → s.inS d q.1 q.2.1 q.2.2 x = true

section
variable {s s' : Sh} {d d' : List Int} {l l' : List Smp}

theorem Tr.clear (h : Tr s d l s' d' l') {q : Q} (hq : q.1 < s.yards.length) (hc : s.clear d l q = true) : s'.clear d' l' q = true := by
  unfold Sh.clear at hc ⊢
  rw [List.all_eq_true] at hc ⊢
  intro x' hx'
  cases hf : x'.found with
  | true => rfl
  | false =>
    obtain ⟨x, hx, hfx, hi⟩ := h.n x' hx' hf
    have h1 := hc x hx
    rw [hfx, Bool.false_or] at h1
    cases hi' : s'.inS d' q.1 q.2.1 q.2.2 x' with
    | false => rfl
    | true => rw [hi q hq hi'] at h1; cases h1

theorem Tr.hits (h : Tr s d l s' d' l') {q : Q} (hq : q.1 < s.yards.length) {x x' : Smp} (hi : s.inS d q.1 q.2.1 q.2.2 x = true → s'.inS d' q.1 q.2.1 q.2.2 x' = true) (hh : s.hits d l x q = true) : s'.hits d' l' x' q = true := by
  unfold Sh.hits at hh ⊢
  rw [Bool.and_eq_true] at hh ⊢
  exact ⟨hi hh.1, h.clear hq hh.2⟩

theorem Tr.expl (h : Tr s d l s' d' l') {ys ys' : Nat} (hs : ∀ q, q ∈ s.spills ys → q ∈ s'.spills ys') (he : s.expl1 d l ys = true) : s'.expl1 d' l' ys' = true := by
  unfold Sh.expl1 at he ⊢
  rw [List.all_eq_true] at he ⊢
  intro x' hx'
  unfold Sh.isE
  cases hf : x'.found with
  | false => rfl
  | true =>
    obtain ⟨x, hx, hfx, hi⟩ := h.f x' hx' hf
    have h1 := he x hx
    unfold Sh.isE at h1
    rw [hfx, Bool.not_true, Bool.false_or, List.any_eq_true] at h1
    obtain ⟨q, hq, hh⟩ := h1
    rw [Bool.not_true, Bool.false_or, List.any_eq_true]
    exact ⟨q, hs q hq, h.hits (spills_lt hq) (hi q (spills_lt hq)) hh⟩

theorem Tr.canAt (h : Tr s d l s' d' l') (hs : ∀ q, q ∈ s.spills s.all → q ∈ s'.spills s'.all) {x x' : Smp}
    (hi : ∀ q : Q, q.1 < s.yards.length → s.inS d q.1 q.2.1 q.2.2 x = true → s'.inS d' q.1 q.2.1 q.2.2 x' = true) {y : Nat} (hc : s.canAt d l x y = true) : s'.canAt d' l' x' y = true := by
  unfold Sh.canAt at hc ⊢
  rw [Bool.and_eq_true, List.any_eq_true] at hc ⊢
  obtain ⟨h1, q, hq, h2⟩ := hc
  rw [Bool.and_eq_true] at h2
  exact ⟨h.expl hs h1, q, hs q hq, by rw [Bool.and_eq_true]; exact ⟨h2.1, h.hits (spills_lt hq) (hi q (spills_lt hq)) h2.2⟩⟩
end

/-- Fewer samples. -/
theorem Tr.sub {s : Sh} {d : List Int} {l l' : List Smp} (h : ∀ x ∈ l', x ∈ l) : Tr s d l s d l' :=
  ⟨fun x' hx hf => ⟨x', h x' hx, hf, fun _ _ h => h⟩, fun x' hx hf => ⟨x', h x' hx, hf, fun _ _ h => h⟩⟩

theorem expl1_mono {s : Sh} {d : List Int} {l : List Smp} {ys ys' : Nat} (h : ∀ i, ys.testBit i = true → ys'.testBit i = true) (he : s.expl1 d l ys = true) : s.expl1 d l ys' = true :=
  (Tr.sub fun _ h => h).expl (fun q hq => by
    obtain ⟨h1, h2, h3⟩ := spills_iff.1 hq
    exact spills_iff.2 ⟨h1, h _ h2, h3⟩) he

theorem expl_iff {s : Sh} {l : List Smp} (hl : l.length ≤ 8) (ys : Nat) : s.expl l ys = true ↔ ∃ d ∈ drs s.drifts, s.expl1 d l ys = true := by
  rw [expl_eq hl, List.any_eq_true]
  simp only [drsS_mem]
theorem expl_mono {s : Sh} {l : List Smp} (hl : l.length ≤ 8) {ys ys' : Nat} (h : ∀ i, ys.testBit i = true → ys'.testBit i = true) (he : s.expl l ys = true) : s.expl l ys' = true := by
  obtain ⟨d, hd, h1⟩ := (expl_iff hl ys).1 he
  exact (expl_iff hl ys').2 ⟨d, hd, expl1_mono h h1⟩

theorem can_one {s : Sh} (hv : s.Valid) {l : List Smp} (hl : l.length ≤ 8) {i : Nat} {x : Smp} (hx : l[i]? = some x) (y : Nat) : (s.can l (2 ^ i)).testBit y = true ↔ ∃ d ∈ drs s.drifts, s.canAt d l x y = true := by
  rw [can_bit hv hl]
  constructor
  · rintro ⟨d, hd, j, x', hx', hb, hc⟩
    rw [pow_bit] at hb
    have : j = i := by simpa using hb
    subst this
    rw [hx] at hx'; cases hx'
    exact ⟨d, hd, hc⟩
  · rintro ⟨d, hd, hc⟩
    exact ⟨d, hd, i, x, hx, by rw [pow_bit]; simp, hc⟩
theorem can_fnd {s : Sh} (hv : s.Valid) {l : List Smp} (hl : l.length ≤ 8) (y : Nat) : (s.can l (fnd l)).testBit y = true ↔ ∃ d ∈ drs s.drifts, ∃ x ∈ l, x.found = true ∧ s.canAt d l x y = true := by
  rw [can_bit hv hl]
  constructor
  · rintro ⟨d, hd, i, x, hx, hb, hc⟩
    rw [fnd_bit, foundAt_get hx] at hb
    exact ⟨d, hd, x, List.mem_of_getElem? hx, hb, hc⟩
  · rintro ⟨d, hd, x, hx, hf, hc⟩
    obtain ⟨i, hi⟩ := List.mem_iff_getElem?.1 hx
    exact ⟨d, hd, i, x, hi, by rw [fnd_bit, foundAt_get hi]; exact hf, hc⟩

/-- A sample in which something was found is explained by some yard. -/
theorem expl1_yard {s : Sh} {d : List Int} {l : List Smp} {ys : Nat} (hys : ∀ i, ys.testBit i = true → s.all.testBit i = true) (he : s.expl1 d l ys = true) {x : Smp} (hx : x ∈ l) (hf : x.found = true) : ∃ y, ys.testBit y = true ∧ s.canAt d l x y = true := by
  have h1 := he
  unfold Sh.expl1 at h1
  rw [List.all_eq_true] at h1
  have h2 := h1 x hx
  unfold Sh.isE at h2
  rw [hf, Bool.not_true, Bool.false_or, List.any_eq_true] at h2
  obtain ⟨q, hq, hh⟩ := h2
  obtain ⟨e1, e2, e3⟩ := spills_iff.1 hq
  refine ⟨q.1, e2, ?_⟩
  unfold Sh.canAt
  rw [Bool.and_eq_true, List.any_eq_true]
  exact ⟨expl1_mono hys he, q, spills_iff.2 ⟨e1, hys _ e2, e3⟩, by rw [hh]; simp⟩

/-! ### The fewest yards -/

theorem befB_card {a b : Nat} : (befB (yardsZ a) (yardsZ b) = true → card a ≤ card b) ∧ (befB (yardsZ a) (yardsZ b) = false → card b ≤ card a) := by
  unfold befB card
  rw [yardsZ_len, yardsZ_len]
  split
  · exact ⟨fun _ => by omega, fun _ => by omega⟩
  · exact ⟨fun h => by have := of_decide_eq_true h; omega, fun h => by have := of_decide_eq_false h; omega⟩
theorem bestN_p {p : Nat → Bool} {all : Nat} (ha : p all = true) : ∀ n, p (bestN p all n) = true
  | 0 => ha
  | n + 1 => by
    unfold bestN
    split
    · rename_i h; rw [Bool.and_eq_true] at h; exact h.2
    · exact bestN_p ha n
theorem bestN_min {p : Nat → Bool} {all : Nat} : ∀ n k, k < n → p k = true → card (bestN p all n) ≤ card k
  | 0, _, h, _ => absurd h (Nat.not_lt_zero _)
  | n + 1, k, h, hp => by
    have ih := bestN_min (p := p) (all := all) n
    have hb := befB_card (a := n) (b := bestN p all n)
    unfold bestN
    split
    · rename_i h1
      rw [Bool.and_eq_true] at h1
      by_cases hk : k = n
      · subst hk; exact Nat.le_refl _
      · exact Nat.le_trans (hb.1 h1.1) (ih k (by omega) hp)
    · rename_i h1
      by_cases hk : k = n
      · subst hk
        rw [hp, Bool.and_true] at h1
        exact hb.2 (by simpa using h1)
      · exact ih k (by omega) hp
theorem bestN_congr {p q : Nat → Bool} {all : Nat} (h : ∀ k, p k = q k) : ∀ n, bestN p all n = bestN q all n
  | 0 => rfl
  | n + 1 => by unfold bestN; rw [bestN_congr h n, h n]

end Go.Proofs.Water

namespace Go.Proofs.Water
open Go.V Go.Proofs Go.Proofs.Top

def namesOk : List ByteArray → List ByteArray → Bool
  | _, [] => true
  | pre, n :: r => (nameB n && !(pre.any fun m => sameS m n)) && namesOk (pre ++ [n]) r
theorem fresh_names (pre : List Yd) (n : ByteArray) : (freshE pre n == 0) = (nameB n && !((pre.map Yd.name).any fun m => sameS m n)) := by
  have e : ((pre.map Yd.name).any fun m => sameS m n) = pre.any fun x => sameS x.name n := by rw [List.any_map]; rfl
  rw [e]
  unfold freshE
  cases nameB n <;> cases (pre.any fun x => sameS x.name n) <;> rfl
def Yd.ok (x : Yd) : Prop := (0 ≤ x.at' ∧ x.at' ≤ 100) ∧ 0 ≤ x.kinds ∧ x.kinds ≤ 3
theorem yardE_iff (pre : List Yd) (x : Yd) : yardE pre x = 0 ↔ (freshE pre x.name == 0) = true ∧ x.ok := by
  unfold yardE
  cases hf : freshE pre x.name == 0 with
  | false =>
    have h0 : ¬ freshE pre x.name = 0 := by simpa using hf
    exact ⟨fun h => absurd h h0, fun h => by cases h.1⟩
  | true =>
    cases h1 : [x.at'].any (outB 0 100) || [x.kinds].any (outB 0 3) with
    | true =>
      refine ⟨fun h => (by cases h), fun h => ?_⟩
      have h2 := h.2
      unfold Yd.ok at h2
      simp [outB] at h1
      omega
    | false =>
      refine ⟨fun _ => ⟨rfl, ?_⟩, fun _ => rfl⟩
      unfold Yd.ok
      simp [outB] at h1
      omega
theorem yardsE_iff : ∀ (l pre : List Yd) (i : Int), yardsE pre l i = none ↔ namesOk (pre.map Yd.name) (l.map Yd.name) = true ∧ ∀ x ∈ l, x.ok
  | [], pre, i => by simp [yardsE, namesOk]
  | x :: r, pre, i => by
    have hz := yardE_iff pre x
    rw [fresh_names] at hz
    have ih := yardsE_iff r (pre ++ [x]) (i + 1)
    rw [List.map_append] at ih
    have ih : yardsE (pre ++ [x]) r (i + 1) = none ↔ namesOk (pre.map Yd.name ++ [x.name]) (r.map Yd.name) = true ∧ ∀ x ∈ r, x.ok := ih
    unfold yardsE
    rw [List.map_cons, namesOk, Bool.and_eq_true]
    cases h : yardE pre x != 0 with
    | true =>
      have h : ¬ yardE pre x = 0 := by simpa using h
      refine ⟨fun e => (by cases e), fun e => absurd (hz.2 ⟨e.1.1, e.2 x (by simp)⟩) h⟩
    | false =>
      have h : yardE pre x = 0 := by simpa using h
      obtain ⟨h1, h2⟩ := hz.1 h
      show yardsE (pre ++ [x]) r (i + 1) = none ↔ _
      rw [ih]
      constructor
      · rintro ⟨a, b⟩
        exact ⟨⟨h1, a⟩, fun y hy => by
          rcases List.mem_cons.1 hy with rfl | hy
          · exact h2
          · exact b y hy⟩
      · rintro ⟨a, b⟩
        exact ⟨a.2, fun y hy => b y (by simp [hy])⟩
def Sp.ok (b : Sp) : Prop := -10 ≤ b.lo ∧ b.lo ≤ b.hi ∧ b.hi ≤ 10 ∧ b.hi ≤ b.lo + 6
theorem driftsE_iff : ∀ (l : List Sp) (i : Int), driftsE l i = none ↔ ∀ b ∈ l, b.ok
  | [], i => by simp [driftsE]
  | b :: r, i => by
    have ih := driftsE_iff r (i + 1)
    unfold driftsE
    have hb : b.ok ↔ ([b.lo, b.hi].any (outB (-10) 10) = false ∧ [b.hi].any (outB b.lo (b.lo + 6)) = false) := by
      unfold Sp.ok
      simp [outB]
      omega
    constructor
    · intro h
      cases h1 : [b.lo, b.hi].any (outB (-10) 10) with
      | true => rw [h1] at h; cases h
      | false =>
        rw [h1] at h
        cases h2 : [b.hi].any (outB b.lo (b.lo + 6)) with
        | true => rw [h2] at h; cases h
        | false =>
          rw [h2] at h
          intro x hx
          rcases List.mem_cons.1 hx with rfl | hx
          · exact hb.2 ⟨h1, h2⟩
          · exact ih.1 h x hx
    · intro h
      obtain ⟨h1, h2⟩ := hb.1 (h b (by simp))
      rw [h1, h2]
      exact ih.2 fun x hx => h x (by simp [hx])

theorem err0_iff (s : Sh) : s.err0 = 0 ↔ s.Valid ∧ namesOk [] (s.yards.map Yd.name) = true := by
  constructor
  · intro h
    refine ⟨valid_of h, ?_⟩
    unfold Sh.err0 Sh.check at h
    split at h
    · cases h
    · split at h
      · cases h
      · unfold Sh.check1 at h
        split at h
        · rename_i r h3
          exact absurd h (yardsE_ne h3)
        · rename_i h3
          exact ((yardsE_iff s.yards [] 0).1 h3).1
  · rintro ⟨hv, hn⟩
    have h1 : s.badL = false := by
      have := hv.yl; have := hv.dl
      unfold Sh.badL
      simp [outB]
      omega
    have h2 : [s.spread].any (outB 0 10) = false := by
      have := hv.sp
      simp [outB]
      omega
    have h3 : yardsE [] s.yards 0 = none := (yardsE_iff s.yards [] 0).2 ⟨hn, fun x hx => hv.y x hx⟩
    have h4 : driftsE s.drifts 0 = none := (driftsE_iff s.drifts 0).2 fun b hb => hv.d b hb
    unfold Sh.err0 Sh.check Sh.check1 Sh.check2
    rw [h1, h2, h3, h4]
theorem open_iff (s : Sh) (l : List Smp) : s.openE l = 0 ↔ s.Valid ∧ namesOk [] (s.yards.map Yd.name) = true ∧ l.length ≤ 8 ∧ ∀ x ∈ l, s.okX x := by
  constructor
  · intro h
    have hok := ok_of h
    refine ⟨hok.v, ?_, hok.ll, hok.x⟩
    unfold Sh.openE at h
    cases h1 : s.err0 != 0 with
    | true =>
      rw [h1] at h
      have h1 : ¬ s.err0 = 0 := by simpa using h1
      exact absurd h h1
    | false => exact ((err0_iff s).1 (by simpa using h1)).2
  · rintro ⟨hv, hn, hl, hx⟩
    have h0 := (err0_iff s).2 ⟨hv, hn⟩
    have h1 : (s.err0 != 0) = false := by simp [h0]
    have h2 : decide ((l.length : Int) > 8) = false := decide_eq_false (by omega)
    unfold Sh.openE
    rw [h1, h2]
    exact lstE_zero.2 fun x h => smpE_zero.2 (hx x h)

/-! ### Some yards alone -/

theorem hasB_iff {l : List Int} {n : Int} : hasB l n = true ↔ n ∈ l := by
  unfold hasB
  rw [List.any_eq_true]
  constructor
  · rintro ⟨x, hx, h⟩
    have : x = n := by simpa using h
    rw [← this]; exact hx
  · intro h
    exact ⟨n, h, by simp⟩
theorem agree_open {s : Sh} {l : List Smp} (h : s.openE l = 0) : s.agreeR l = (s.expl l s.all, 0) := by
  unfold Sh.agreeR; rw [h]; rfl
/-! ### Who must be a source -/

theorem enter_open {s : Sh} {l : List Smp} (h : s.openE l = 0) : s.enterE l = if s.expl l s.all = true then 0 else 9 := by
  unfold Sh.enterE Sh.agreedE
  rw [h]
  cases s.expl l s.all <;> rfl
theorem enter_bad {s : Sh} {l : List Smp} (h : s.openE l ≠ 0) : s.enterE l = s.openE l := by
  unfold Sh.enterE Sh.agreedE
  have : (s.openE l == 0) = false := by simpa using h
  rw [this]
theorem mustR_ok {s : Sh} {l : List Smp} (h : s.openE l = 0) (he : s.expl l s.all = true) : s.mustR l = (s.mustL l s.yards.length, 0) := by
  unfold Sh.mustR; rw [enter_open h, if_pos he]; rfl
theorem mustR_no {s : Sh} {l : List Smp} (h : s.enterE l ≠ 0) : s.mustR l = ([], s.enterE l) := by
  unfold Sh.mustR
  have : (s.enterE l != 0) = true := by simpa using h
  rw [this]
theorem fewestR_ok {s : Sh} {l : List Smp} (h : s.openE l = 0) (he : s.expl l s.all = true) : s.fewestR l = (yardsZ (bestN (s.expl l) s.all (2 ^ s.yards.length)), 0) := by
  unfold Sh.fewestR; rw [enter_open h, if_pos he]; rfl
theorem fewestR_no {s : Sh} {l : List Smp} (h : s.enterE l ≠ 0) : s.fewestR l = ([], s.enterE l) := by
  unfold Sh.fewestR
  have : (s.enterE l != 0) = true := by simpa using h
  rw [this]
theorem sourcesR_ok {s : Sh} {l : List Smp} (h : s.openE l = 0) (he : s.expl l s.all = true) : s.sourcesR l = (yardsZ (s.can l (fnd l)), 0) := by
  unfold Sh.sourcesR; rw [enter_open h, if_pos he]; rfl
theorem sourcesR_no {s : Sh} {l : List Smp} (h : s.enterE l ≠ 0) : s.sourcesR l = ([], s.enterE l) := by
  unfold Sh.sourcesR
  have : (s.enterE l != 0) = true := by simpa using h
  rw [this]
theorem canR_ok {s : Sh} {l : List Smp} (h : s.openE l = 0) (he : s.expl l s.all = true) {i : Nat} {x : Smp} (hx : l[i]? = some x) (hf : x.found = true) : s.canR l i = (yardsZ (s.can l (2 ^ i)), 0) := by
  have hi := (List.getElem?_eq_some_iff.1 hx).1
  have hg : givenE l i = 0 := by
    unfold givenE
    have h1 : [(i : Int)].any (outB 0 ((l.length : Int) - 1)) = false := by simp [outB]; omega
    rw [h1]
    have h2 : foundAt l ((i : Int)).toNat = true := by rw [Int.toNat_natCast, foundAt_get hx]; exact hf
    rw [h2]
  have hfe : s.foundE l i = 0 := by
    unfold Sh.foundE
    rw [h, hg]; rfl
  have ha : s.agreedE l (s.foundE l i) = 0 := by
    unfold Sh.agreedE
    rw [hfe, he]; rfl
  unfold Sh.canR
  rw [ha]
  rfl

theorem mustL_mem {s : Sh} {l : List Smp} {n y : Nat} : (y : Int) ∈ s.mustL l n ↔ y < n ∧ s.expl l (diff s.all (2 ^ y)) = false := by
  unfold Sh.mustL
  simp only [List.mem_map, List.mem_filter, List.mem_range]
  constructor
  · rintro ⟨a, ⟨h1, h2⟩, h3⟩
    have : a = y := by omega
    subst this
    exact ⟨h1, by simpa using h2⟩
  · rintro ⟨h1, h2⟩
    exact ⟨y, ⟨h1, by rw [h2]; rfl⟩, rfl⟩
theorem mustL_nat {s : Sh} {l : List Smp} {n : Nat} {z : Int} (h : z ∈ s.mustL l n) : ∃ y : Nat, z = y ∧ y < n ∧ s.expl l (diff s.all (2 ^ y)) = false := by
  have h' := h
  unfold Sh.mustL at h'
  simp only [List.mem_map] at h'
  obtain ⟨a, _, rfl⟩ := h'
  exact ⟨a, rfl, mustL_mem.1 h⟩
end Go.Proofs.Water

namespace Go.Proofs.Water
open Go.V Go.Proofs Go.Proofs.Top

theorem listD_congr {p : List Int × Int} {l : List Int} {e : Int} {k : Nat} {ds : List D} (h : DN k ds (listD p)) (he : p = (l, e)) : DN k ds (.tup [.list 1 (l.map encI), .int .i64 e]) := by subst he; exact h
theorem agreeD_congr {p : Bool × Int} {b : Bool} {e : Int} {k : Nat} {ds : List D} (h : DN k ds (agreeD p)) (he : p = (b, e)) : DN k ds (.tup [.bool b, .int .i64 e]) := by subst he; exact h
theorem mustL_small {s : Sh} (hv : s.Valid) (l : List Smp) : (s.mustL l s.yards.length).length ≤ 5 := by
  have h1 := mustL_len s l s.yards.length
  have := hv.yl
  omega

end Go.Proofs.Water

namespace Go.Proofs.Water
open Go.V Go.Proofs Go.Proofs.Top

def otherL (n b : Nat) : List Int := ((List.range n).filter fun i => b.testBit i).map fun i : Nat => (i : Int)
theorem otherL_len (n b : Nat) : (otherL n b).length ≤ n := by
  unfold otherL
  rw [List.length_map]
  exact Nat.le_trans (List.length_filter_le _ _) (by simp)
theorem otherL_add {n b : Nat} (h : b.testBit n = true) : otherL (n + 1) b = otherL n b ++ [(n : Int)] := by
  unfold otherL
  rw [List.range_succ, List.filter_append]
  simp [h]
theorem otherL_skip {n b : Nat} (h : b.testBit n = false) : otherL (n + 1) b = otherL n b := by
  unfold otherL
  rw [List.range_succ, List.filter_append]
  simp [h]
theorem filter_range {p : Nat → Bool} {n : Nat} (h : ∀ i, n ≤ i → p i = false) : ∀ j, (List.range (n + j)).filter p = (List.range n).filter p
  | 0 => rfl
  | j + 1 => by
    rw [← Nat.add_assoc, List.range_succ, List.filter_append, filter_range h j]
    simp [h (n + j) (Nat.le_add_right _ _)]
theorem otherL_card {n b : Nat} (h : n ≤ 5) : (otherL n b).length = card (setOf n b.testBit) := by
  unfold otherL card yardsL
  rw [List.length_map]
  have h1 : (List.range 5).filter (fun i => (setOf n b.testBit).testBit i) = (List.range n).filter fun i => (setOf n b.testBit).testBit i := by
    have := filter_range (p := fun i => (setOf n b.testBit).testBit i) (n := n) (fun i hi => by simp only [setOf_bit]; rw [decide_eq_false (by omega)]; rfl) (5 - n)
    rw [show n + (5 - n) = 5 by omega] at this
    exact this
  rw [h1]
  congr 1
  apply List.filter_congr
  intro i hi
  rw [setOf_bit, decide_eq_true (List.mem_range.1 hi)]
  rfl
theorem otherL_mask {n b : Nat} : ∀ i : Nat, i < n → (setOf n b.testBit).testBit i = hasB (otherL n b) i := fun i hi => by
  apply Bool.eq_iff_iff.2
  rw [setOf_bit, hasB_iff, decide_eq_true hi, Bool.true_and]
  unfold otherL
  simp only [List.mem_map, List.mem_filter, List.mem_range]
  constructor
  · intro h; exact ⟨i, ⟨hi, h⟩, rfl⟩
  · rintro ⟨a, ⟨_, h⟩, e⟩
    have : a = i := by omega
    subst this; exact h
theorem yardsZ_mask {n B : Nat} (hn : n ≤ 5) : ∀ i : Nat, i < n → B.testBit i = hasB (yardsZ B) i := fun i hi => by
  apply Bool.eq_iff_iff.2
  rw [hasB_iff, yardsZ_mem]
  constructor
  · intro h; exact ⟨i, by omega, h, rfl⟩
  · rintro ⟨a, _, h, e⟩
    have : a = i := by omega
    subst this; exact h
theorem withinB_iff {a b : List Int} : withinB a b = true ↔ ∀ z ∈ a, z ∈ b := by
  unfold withinB
  rw [List.all_eq_true]
  constructor
  · intro h z hz; exact hasB_iff.1 (h z hz)
  · intro h z hz; exact hasB_iff.2 (h z hz)

/-- All that must be a source are among the yards of each set that explains. -/
theorem must_in {s : Sh} {l : List Smp} (hl : l.length ≤ 8) (hv : s.Valid) {B : Nat} (hB : s.expl l B = true) (hBa : ∀ i, B.testBit i = true → s.all.testBit i = true) : withinB (s.mustL l s.yards.length) (yardsZ B) = true := by
  rw [withinB_iff]
  intro z hz
  obtain ⟨y, rfl, hy, he⟩ := mustL_nat hz
  have := hv.yl
  refine yardsZ_mem.2 ⟨y, by omega, ?_, rfl⟩
  cases hb : B.testBit y with
  | true => rfl
  | false =>
    have h1 := expl_mono hl (ys := B) (ys' := diff s.all (2 ^ y)) (fun i hi => by
      rw [diff_bit, hBa i hi, pow_bit]
      by_cases h : i = y
      · subst h; rw [hb] at hi; cases hi
      · simp [h]) hB
    rw [he] at h1; cases h1

theorem fewestR_small (s : Sh) (l : List Smp) : (s.fewestR l).1.length ≤ 5 := by
  unfold Sh.fewestR
  split
  · exact Nat.zero_le _
  · exact yardsZ_le _

end Go.Proofs.Water

namespace Go.Proofs.Water
open Go.V Go.Proofs Go.Proofs.Top

/-! ### With more samples -/
theorem expl_sub {s : Sh} {l l' : List Smp} (hl : l.length ≤ 8) (hl' : l'.length ≤ 8) (h : ∀ x ∈ l', x ∈ l) {ys : Nat} (he : s.expl l ys = true) : s.expl l' ys = true := by
  obtain ⟨d, hd, h1⟩ := (expl_iff hl ys).1 he
  exact (expl_iff hl' ys).2 ⟨d, hd, (Tr.sub h).expl (fun _ h => h) h1⟩
theorem all_lt2 (s : Sh) : s.all < 2 ^ s.yards.length := by have := Nat.two_pow_pos s.yards.length; unfold Sh.all; omega
theorem must_sub {s : Sh} {l l' : List Smp} (hl : l.length ≤ 8) (hl' : l'.length ≤ 8) (h : ∀ x ∈ l', x ∈ l) : withinB (s.mustL l' s.yards.length) (s.mustL l s.yards.length) = true := by
  rw [withinB_iff]
  intro z hz
  obtain ⟨y, rfl, hy, he⟩ := mustL_nat hz
  refine mustL_mem.2 ⟨hy, ?_⟩
  cases h1 : s.expl l (diff s.all (2 ^ y)) with
  | false => rfl
  | true => rw [expl_sub hl hl' h h1] at he; cases he
theorem best_sub {s : Sh} {l l' : List Smp} (hl : l.length ≤ 8) (hl' : l'.length ≤ 8) (h : ∀ x ∈ l', x ∈ l) (he : s.expl l s.all = true) :
    card (bestN (s.expl l') s.all (2 ^ s.yards.length)) ≤ card (bestN (s.expl l) s.all (2 ^ s.yards.length)) :=
  bestN_min _ _ (bestN_lt _ (all_lt2 s) _ (Nat.le_refl _)) (expl_sub hl hl' h (bestN_p he _))
theorem can_sub {s : Sh} (hv : s.Valid) {l l' : List Smp} (hl : l.length ≤ 8) (hl' : l'.length ≤ 8) (h : ∀ x ∈ l', x ∈ l) {i j : Nat} {x : Smp} (hx : l[i]? = some x) (hx' : l'[j]? = some x) :
    withinB (yardsZ (s.can l (2 ^ i))) (yardsZ (s.can l' (2 ^ j))) = true := by
  rw [withinB_iff]
  intro z hz
  obtain ⟨y, hy, hb, rfl⟩ := yardsZ_mem.1 hz
  refine yardsZ_mem.2 ⟨y, hy, ?_, rfl⟩
  obtain ⟨d, hd, hc⟩ := (can_one hv hl hx y).1 hb
  exact (can_one hv hl' hx' y).2 ⟨d, hd, (Tr.sub h).canAt (fun _ h => h) (fun _ _ h => h) hc⟩

end Go.Proofs.Water

namespace Go.Proofs.Water
open Go.V Go.Proofs Go.Proofs.Top

/-! ### A truth and what samples tell of it -/

theorem told_okX {s : Sh} (hv : s.Valid) {p : Past} (hp : p.Ok) (d : List Int) (S : List Q) (k : Nat) : s.okX (s.toldX d S p k) := by
  have hdl := hv.dl
  have a0 := tmod_range (tk_in hp (3 * k)).1 (k := 101) (by decide)
  have a1 := tmod_range (tk_in hp (3 * k + 1)).1 (k := s.drifts.length) (by omega)
  have a2 := tmod_range (tk_in hp (3 * k + 2)).1 (k := 2) (by decide)
  refine ⟨a1, ?_, ?_⟩
  · show 0 ≤ (tk p (3 * k + 2)).tmod 2 ∧ (tk p (3 * k + 2)).tmod 2 ≤ 1
    omega
  · show 0 ≤ (tk p (3 * k)).tmod 101 ∧ (tk p (3 * k)).tmod 101 ≤ 100
    omega
theorem told_open {s : Sh} (h0 : s.err0 = 0) {p : Past} (hp : p.Ok) : s.openE (s.told p) = 0 := by
  obtain ⟨hv, hn⟩ := (err0_iff s).1 h0
  refine (open_iff s _).2 ⟨hv, hn, ?_, fun x hx => ?_⟩
  · unfold Sh.told
    rw [toldF_len]
    omega
  · unfold Sh.told Sh.toldF at hx
    obtain ⟨k, _, rfl⟩ := List.mem_map.1 hx
    exact told_okX hv hp _ _ k
theorem told_found {s : Sh} {p : Past} {x : Smp} (hx : x ∈ s.told p) : x.found = (s.spilled p.spills).any fun q => s.inS (driftedF s p.drifts s.drifts.length) q.1 q.2.1 q.2.2 x := by
  unfold Sh.told Sh.toldF at hx
  obtain ⟨k, _, rfl⟩ := List.mem_map.1 hx
  rfl
/-- What is spilled is in no sample in which nothing was found. -/
theorem told_clear {s : Sh} {p : Past} {q : Q} (hq : q ∈ s.spilled p.spills) : s.clear (driftedF s p.drifts s.drifts.length) (s.told p) q = true := by
  unfold Sh.clear
  rw [List.all_eq_true]
  intro x hx
  cases hf : x.found with
  | true => rfl
  | false =>
    rw [told_found hx] at hf
    have h1 := List.any_eq_false.1 hf q hq
    simp only [Bool.not_eq_true] at h1
    rw [h1]; rfl
theorem told_expl {s : Sh} {p : Past} {m : Nat} (hm : ∀ q ∈ s.spilled p.spills, m.testBit q.1 = true) : s.expl1 (driftedF s p.drifts s.drifts.length) (s.told p) m = true := by
  unfold Sh.expl1
  rw [List.all_eq_true]
  intro x hx
  unfold Sh.isE
  cases hf : x.found with
  | false => rfl
  | true =>
    have hf' := hf
    rw [told_found hx, List.any_eq_true] at hf'
    obtain ⟨q, hq, hi⟩ := hf'
    rw [Bool.not_true, Bool.false_or, List.any_eq_true]
    obtain ⟨e1, e2, e3⟩ := spills_iff.1 (pickF_mem hq)
    exact ⟨q, spills_iff.2 ⟨e1, hm q hq, e3⟩, by unfold Sh.hits; rw [hi, told_clear hq]; rfl⟩
theorem told_can {s : Sh} {p : Past} {q : Q} (hq : q ∈ s.spilled p.spills) {x : Smp} (hi : s.inS (driftedF s p.drifts s.drifts.length) q.1 q.2.1 q.2.2 x = true) : s.canAt (driftedF s p.drifts s.drifts.length) (s.told p) x q.1 = true := by
  unfold Sh.canAt
  rw [Bool.and_eq_true, List.any_eq_true]
  refine ⟨told_expl fun q hq => ?_, q, pickF_mem hq, ?_⟩
  · rw [all_bit]; exact decide_eq_true (spilled_lt hq)
  · unfold Sh.hits
    rw [hi, told_clear hq]; simp
/-- The yards that can be a source explain. -/
theorem src_expl {s : Sh} (hv : s.Valid) {l : List Smp} (hl : l.length ≤ 8) (he : s.expl l s.all = true) : s.expl l (s.can l (fnd l)) = true := by
  obtain ⟨d, hd, h1⟩ := (expl_iff hl _).1 he
  refine (expl_iff hl _).2 ⟨d, hd, ?_⟩
  have h2 := h1
  unfold Sh.expl1 at h2 ⊢
  rw [List.all_eq_true] at h2 ⊢
  intro x hx
  have h3 := h2 x hx
  unfold Sh.isE at h3 ⊢
  cases hf : x.found with
  | false => rfl
  | true =>
    rw [hf, Bool.not_true, Bool.false_or, List.any_eq_true] at h3
    rw [Bool.not_true, Bool.false_or, List.any_eq_true]
    obtain ⟨q, hq, hh⟩ := h3
    obtain ⟨e1, e2, e3⟩ := spills_iff.1 hq
    refine ⟨q, spills_iff.2 ⟨e1, (can_fnd hv hl q.1).2 ⟨d, hd, x, hx, hf, ?_⟩, e3⟩, hh⟩
    unfold Sh.canAt
    rw [Bool.and_eq_true, List.any_eq_true]
    exact ⟨h1, q, hq, by rw [hh]; simp⟩

theorem card_or : ∀ a : Nat, a < 32 → ∀ y : Nat, y < 5 → card (a ||| 2 ^ y) ≤ card a + 1 := by decide +kernel

theorem lt_of_bits {a n : Nat} (h : ∀ i, a.testBit i = true → i < n) : a < 2 ^ n :=
  Nat.lt_pow_two_of_testBit _ fun i hi => by
    cases hb : a.testBit i with
    | false => rfl
    | true => have := h i hb; omega

/-- The yards that have a spill, found one after the other. -/
structure YD (S : List Q) (k : Nat) (R : List Int) (Y : Nat) : Prop where
  y5 : Y < 32
  mem : ∀ y : Nat, Y.testBit y = true ↔ (y : Int) ∈ R
  card : card Y ≤ R.length
  len : R.length ≤ k
  all : ∀ q ∈ S.take k, (q.1 : Int) ∈ R
  sub : ∀ z ∈ R, ∃ q ∈ S, (q.1 : Int) = z

theorem YD.next {S : List Q} {k : Nat} {R : List Int} {Y : Nat} (h : YD S k R Y) {q : Q} (hk : k < S.length) (hq : S[k] = q) (hy : q.1 < 5) (_ : hasB R q.1 = false) : YD S (k + 1) (R ++ [(q.1 : Int)]) (Y ||| 2 ^ q.1) := by
  refine ⟨or_lt (n := 5) h.y5 (Nat.pow_lt_pow_right (by decide) hy), fun y => ?_, ?_, ?_, fun q' hq' => ?_, fun z hz => ?_⟩
  · rw [Nat.testBit_or, Bool.or_eq_true, h.mem, pow_bit, List.mem_append, List.mem_singleton, decide_eq_true_eq]
    constructor
    · rintro (h | rfl)
      · exact .inl h
      · exact .inr rfl
    · rintro (h | h)
      · exact .inl h
      · exact .inr (by omega)
  · have := card_or Y h.y5 q.1 hy
    have := h.card
    rw [List.length_append]; simp; omega
  · have := h.len
    rw [List.length_append]; simp; omega
  · rw [List.take_succ_eq_append_getElem hk, hq] at hq'
    rcases List.mem_append.1 hq' with h1 | h1
    · exact List.mem_append_left _ (h.all q' h1)
    · rw [List.mem_singleton.1 h1]; simp
  · rcases List.mem_append.1 hz with h1 | h1
    · exact h.sub z h1
    · exact ⟨q, by rw [← hq]; exact List.getElem_mem hk, (List.mem_singleton.1 h1).symm⟩
theorem YD.skip {S : List Q} {k : Nat} {R : List Int} {Y : Nat} (h : YD S k R Y) {q : Q} (hk : k < S.length) (hq : S[k] = q) (hn : hasB R q.1 = true) : YD S (k + 1) R Y := by
  refine ⟨h.y5, h.mem, h.card, by have := h.len; omega, fun q' hq' => ?_, h.sub⟩
  rw [List.take_succ_eq_append_getElem hk, hq] at hq'
  rcases List.mem_append.1 hq' with h1 | h1
  · exact h.all q' h1
  · rw [List.mem_singleton.1 h1]; exact hasB_iff.1 hn

end Go.Proofs.Water
