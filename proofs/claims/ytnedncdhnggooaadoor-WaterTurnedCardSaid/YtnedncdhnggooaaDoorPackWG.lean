/- Plain laws of truths: what holds of one shore and its samples holds of another one; The law's helpers: a shore at which some yards alone can spill anything; Plain laws: what a valid shore with samples is; a shore at which some yards alone can spill anything; who must be a source; The law's function WaterMust returns true; The law's function WaterFewest returns true; The law's function WaterMore returns true. No condition. -/
import Derived.Test.YtnedncdhnggooaaDoorPackWC
import Derived.Test.YtnedncdhnggooaaDoorPackWE
import Derived.Test.YtnedncdhnggooaaDoorPackWD

namespace Go.Proofs.Water
open Go.V Go.Proofs

theorem spills_lt {s : Sh} {ys : Nat} {q : Q} (h : q ∈ s.spills ys) : q.1 < s.yards.length :=
  (prefY_mem (k := q.2.1) (t := q.2.2).1 (spills_iff.1 h).1).1

/-- A truth here is one there. -/
structure Tr (s : Sh) (d : List Int) (l : List Smp) (s' : Sh) (d' : List Int) (l' : List Smp) : Prop where
  f : ∀ x' ∈ l', x'.found = true → ∃ x ∈ l, x.found = true ∧ ∀ q : Q, q.1 < s.yards.length → s.inS d q.1 q.2.1 q.2.2 x = true → s'.inS d' q.1 q.2.1 q.2.2 x' = true
  n : ∀ x' ∈ l', x'.found = false → ∃ x ∈ l, x.found = false ∧ ∀ q : Q, q.1 < s.yards.length → s'.inS d' q.1 q.2.1 q.2.2 x' = true → s.inS d q.1 q.2.1 q.2.2 x = true

section
variable {s s' : Sh} {d d' : List Int} {l l' : List Smp}

theorem Tr.clear (h : Tr s d l s' d' l') {q : Q} (hq : q.1 < s.yards.length) (hc : s.clear d l q = true) : s'.clear d' l' q = true := by
  unfold Sh.clear at hc ⊢
  rw [List.all_eq_true] at hc ⊢
  intro x' hx'
  cases hf : x'.found with
  | true => rfl
  | false =>
    obtain ⟨x, hx, hfx, hi⟩ := h.n x' hx' hf
    have h1 := hc x hx
    rw [hfx, Bool.false_or] at h1
    cases hi' : s'.inS d' q.1 q.2.1 q.2.2 x' with
    | false => rfl
    | true => rw [hi q hq hi'] at h1; cases h1

theorem Tr.hits (h : Tr s d l s' d' l') {q : Q} (hq : q.1 < s.yards.length) {x x' : Smp} (hi : s.inS d q.1 q.2.1 q.2.2 x = true → s'.inS d' q.1 q.2.1 q.2.2 x' = true) (hh : s.hits d l x q = true) : s'.hits d' l' x' q = true := by
  unfold Sh.hits at hh ⊢
  rw [Bool.and_eq_true] at hh ⊢
  exact ⟨hi hh.1, h.clear hq hh.2⟩

theorem Tr.expl (h : Tr s d l s' d' l') {ys ys' : Nat} (hs : ∀ q, q ∈ s.spills ys → q ∈ s'.spills ys') (he : s.expl1 d l ys = true) : s'.expl1 d' l' ys' = true := by
  unfold Sh.expl1 at he ⊢
  rw [List.all_eq_true] at he ⊢
  intro x' hx'
  unfold Sh.isE
  cases hf : x'.found with
  | false => rfl
  | true =>
    obtain ⟨x, hx, hfx, hi⟩ := h.f x' hx' hf
    have h1 := he x hx
    unfold Sh.isE at h1
    rw [hfx, Bool.not_true, Bool.false_or, List.any_eq_true] at h1
    obtain ⟨q, hq, hh⟩ := h1
    rw [Bool.not_true, Bool.false_or, List.any_eq_true]
    exact ⟨q, hs q hq, h.hits (spills_lt hq) (hi q (spills_lt hq)) hh⟩

theorem Tr.canAt (h : Tr s d l s' d' l') (hs : ∀ q, q ∈ s.spills s.all → q ∈ s'.spills s'.all) {x x' : Smp}
    (hi : ∀ q : Q, q.1 < s.yards.length → s.inS d q.1 q.2.1 q.2.2 x = true → s'.inS d' q.1 q.2.1 q.2.2 x' = true) {y : Nat} (hc : s.canAt d l x y = true) : s'.canAt d' l' x' y = true := by
  unfold Sh.canAt at hc ⊢
  rw [Bool.and_eq_true, List.any_eq_true] at hc ⊢
  obtain ⟨h1, q, hq, h2⟩ := hc
  rw [Bool.and_eq_true] at h2
  exact ⟨h.expl hs h1, q, hs q hq, by rw [Bool.and_eq_true]; exact ⟨h2.1, h.hits (spills_lt hq) (hi q (spills_lt hq)) h2.2⟩⟩
end

/-- Fewer samples. -/
theorem Tr.sub {s : Sh} {d : List Int} {l l' : List Smp} (h : ∀ x ∈ l', x ∈ l) : Tr s d l s d l' :=
  ⟨fun x' hx hf => ⟨x', h x' hx, hf, fun _ _ h => h⟩, fun x' hx hf => ⟨x', h x' hx, hf, fun _ _ h => h⟩⟩

theorem expl1_mono {s : Sh} {d : List Int} {l : List Smp} {ys ys' : Nat} (h : ∀ i, ys.testBit i = true → ys'.testBit i = true) (he : s.expl1 d l ys = true) : s.expl1 d l ys' = true :=
  (Tr.sub fun _ h => h).expl (fun q hq => by
    obtain ⟨h1, h2, h3⟩ := spills_iff.1 hq
    exact spills_iff.2 ⟨h1, h _ h2, h3⟩) he

theorem expl_iff {s : Sh} {l : List Smp} (hl : l.length ≤ 8) (ys : Nat) : s.expl l ys = true ↔ ∃ d ∈ drs s.drifts, s.expl1 d l ys = true := by
  rw [expl_eq hl, List.any_eq_true]
  simp only [drsS_mem]
theorem expl_mono {s : Sh} {l : List Smp} (hl : l.length ≤ 8) {ys ys' : Nat} (h : ∀ i, ys.testBit i = true → ys'.testBit i = true) (he : s.expl l ys = true) : s.expl l ys' = true := by
  obtain ⟨d, hd, h1⟩ := (expl_iff hl ys).1 he
  exact (expl_iff hl ys').2 ⟨d, hd, expl1_mono h h1⟩

theorem can_one {s : Sh} (hv : s.Valid) {l : List Smp} (hl : l.length ≤ 8) {i : Nat} {x : Smp} (hx : l[i]? = some x) (y : Nat) : (s.can l (2 ^ i)).testBit y = true ↔ ∃ d ∈ drs s.drifts, s.canAt d l x y = true := by
  rw [can_bit hv hl]
  constructor
  · rintro ⟨d, hd, j, x', hx', hb, hc⟩
    rw [pow_bit] at hb
    have : j = i := by simpa using hb
    subst this
    rw [hx] at hx'; cases hx'
    exact ⟨d, hd, hc⟩
  · rintro ⟨d, hd, hc⟩
    exact ⟨d, hd, i, x, hx, by rw [pow_bit]; simp, hc⟩
theorem can_fnd {s : Sh} (hv : s.Valid) {l : List Smp} (hl : l.length ≤ 8) (y : Nat) : (s.can l (fnd l)).testBit y = true ↔ ∃ d ∈ drs s.drifts, ∃ x ∈ l, x.found = true ∧ s.canAt d l x y = true := by
  rw [can_bit hv hl]
  constructor
  · rintro ⟨d, hd, i, x, hx, hb, hc⟩
    rw [fnd_bit, foundAt_get hx] at hb
    exact ⟨d, hd, x, List.mem_of_getElem? hx, hb, hc⟩
  · rintro ⟨d, hd, x, hx, hf, hc⟩
    obtain ⟨i, hi⟩ := List.mem_iff_getElem?.1 hx
    exact ⟨d, hd, i, x, hi, by rw [fnd_bit, foundAt_get hi]; exact hf, hc⟩

/-- A sample in which something was found is explained by some yard. -/
theorem expl1_yard {s : Sh} {d : List Int} {l : List Smp} {ys : Nat} (hys : ∀ i, ys.testBit i = true → s.all.testBit i = true) (he : s.expl1 d l ys = true) {x : Smp} (hx : x ∈ l) (hf : x.found = true) : ∃ y, ys.testBit y = true ∧ s.canAt d l x y = true := by
  have h1 := he
  unfold Sh.expl1 at h1
  rw [List.all_eq_true] at h1
  have h2 := h1 x hx
  unfold Sh.isE at h2
  rw [hf, Bool.not_true, Bool.false_or, List.any_eq_true] at h2
  obtain ⟨q, hq, hh⟩ := h2
  obtain ⟨e1, e2, e3⟩ := spills_iff.1 hq
  refine ⟨q.1, e2, ?_⟩
  unfold Sh.canAt
  rw [Bool.and_eq_true, List.any_eq_true]
  exact ⟨expl1_mono hys he, q, spills_iff.2 ⟨e1, hys _ e2, e3⟩, by rw [hh]; simp⟩

/-! ### The fewest yards -/

theorem befB_card {a b : Nat} : (befB (yardsZ a) (yardsZ b) = true → card a ≤ card b) ∧ (befB (yardsZ a) (yardsZ b) = false → card b ≤ card a) := by
  unfold befB card
  rw [yardsZ_len, yardsZ_len]
  split
  · exact ⟨fun _ => by omega, fun _ => by omega⟩
  · exact ⟨fun h => by have := of_decide_eq_true h; omega, fun h => by have := of_decide_eq_false h; omega⟩
theorem bestN_p {p : Nat → Bool} {all : Nat} (ha : p all = true) : ∀ n, p (bestN p all n) = true
  | 0 => ha
  | n + 1 => by
    unfold bestN
    split
    · rename_i h; rw [Bool.and_eq_true] at h; exact h.2
    · exact bestN_p ha n
theorem bestN_min {p : Nat → Bool} {all : Nat} : ∀ n k, k < n → p k = true → card (bestN p all n) ≤ card k
  | 0, _, h, _ => absurd h (Nat.not_lt_zero _)
  | n + 1, k, h, hp => by
    have ih := bestN_min (p := p) (all := all) n
    have hb := befB_card (a := n) (b := bestN p all n)
    unfold bestN
    split
    · rename_i h1
      rw [Bool.and_eq_true] at h1
      by_cases hk : k = n
      · subst hk; exact Nat.le_refl _
      · exact Nat.le_trans (hb.1 h1.1) (ih k (by omega) hp)
    · rename_i h1
      by_cases hk : k = n
      · subst hk
        rw [hp, Bool.and_true] at h1
        exact hb.2 (by simpa using h1)
      · exact ih k (by omega) hp
theorem bestN_congr {p q : Nat → Bool} {all : Nat} (h : ∀ k, p k = q k) : ∀ n, bestN p all n = bestN q all n
  | 0 => rfl
  | n + 1 => by unfold bestN; rw [bestN_congr h n, h n]

end Go.Proofs.Water

namespace Go.Proofs.Water
open Go.V Go.Proofs

def Sh.onlyY (s : Sh) (ys : List Int) (i : Nat) : Yd := match s.yards[i]? with | some y => ⟨y.name, y.at', if hasB ys i = true then y.kinds else 0⟩ | none => ⟨⟨#[]⟩, 0, 0⟩
def Sh.onlyF (s : Sh) (ys : List Int) (k : Nat) : List Yd := (List.range k).map (s.onlyY ys)
def Sh.only (s : Sh) (ys : List Int) : Sh := ⟨s.onlyF ys s.yards.length, s.drifts, s.spread⟩
theorem onlyF_len (s : Sh) (ys : List Int) (k : Nat) : (s.onlyF ys k).length = k := by unfold Sh.onlyF; simp
theorem onlyF_add (s : Sh) (ys : List Int) (k : Nat) : s.onlyF ys (k + 1) = s.onlyF ys k ++ [s.onlyY ys k] := by
  unfold Sh.onlyF; rw [List.range_succ, List.map_append]; rfl

set_option maxRecDepth 4000 in
set_option maxHeartbeats 2000000 in
theorem den44 (s : Sh) (ys : List Int) (hy : s.yards.length ≤ 5) (hl : ys.length < 1000) : DN 44 [.agg s.enc, .list 1 (ys.map encI)] (.agg (s.only ys).enc) := by
  refine mk Tryd.func44 Tryd.call44 rfl rfl ?_
  refine ⟨[1, 2, 4, 5, 6], 3, [(.cell 2 0, 3)], fun σ => ∃ (k g : Nat), k ≤ s.yards.length ∧
    σ = ⟨[(1, .list 1 (ys.map encI)), (2, .loc 0 0), (4, .loc 1 0), (5, .loc 2 0), (6, .int .i64 k)],
      [.flat false s.enc, .flat false [.nils, .nils, .int .i64 0], .flat false [.sl 3 g 0 ((s.onlyF ys k).map Yd.enc).length, .list 2 (s.drifts.map Sp.enc), .int .i64 s.spread], .rows false g 3 ((s.onlyF ys k).map Yd.enc)], .non⟩,
    fun σ => (1000 - slotI 6 σ).toNat, rfl, ⟨rfl, rfl⟩, ⟨0, 0, Nat.zero_le _, rfl⟩, ?_⟩
  rintro σ ⟨k, g, hk, rfl⟩
  have hml := onlyF_len s ys k
  have less : (1000 - ((k : Int) + 1)).toNat < (1000 - (k : Int)).toNat := by omega
  refine ⟨fun h3 => ?_, fun h3 => ?_⟩
  · have h3 := of_decide_eq_true h3
    rw [yd_len] at h3
    have hk' : k < s.yards.length := by omega
    obtain ⟨y, hyk⟩ : ∃ y, s.yards[k] = y := ⟨_, rfl⟩
    have hrow : (s.yards.map Yd.enc)[((k : Int)).toNat]? = some (y.enc) := by simp [hk', hyk]
    have hget : s.yards[k]? = some y := by rw [List.getElem?_eq_getElem hk', hyk]
    have hadd := onlyF_add s ys k
    have hb : ((s.onlyF ys k).map Yd.enc).length = k := by rw [List.length_map, hml]
    have hbb : (((s.onlyF ys k).map Yd.enc).length + 1) * 32 ≤ mostBytes := by rw [hb]; unfold mostBytes; omega
    refine ⟨by omega, _, hrow, ?_⟩
    refine ⟨_, rfl, _, den40 ys k hl, ?_⟩
    refine ⟨fun h4 => ?_, fun h4 => ?_⟩
    · have h4 : hasB ys k = false := by simpa using h4
      have hY : s.onlyY ys k = ⟨y.name, y.at', 0⟩ := by unfold Sh.onlyY; rw [hget, h4]; rfl
      have hcat : (s.onlyF ys k).map Yd.enc ++ [[D.str y.name, .int .i64 y.at', .int .i64 0]] = (s.onlyF ys (k + 1)).map Yd.enc := by rw [hadd, hY, List.map_append]; rfl
      refine ⟨trivial, iff' (by rw [beq_self]; rfl) ⟨rfl, hbb, _, hcat, ?_⟩⟩
      refine ⟨(k : Int) + 1, wrap64 (by omega) (by omega), ?_⟩
      exact ⟨⟨rfl, rfl⟩, ⟨k + 1, g + 1, hk', rfl⟩, less⟩
    · have h4 : hasB ys k = true := by simpa using h4
      have hY : s.onlyY ys k = y := by unfold Sh.onlyY; rw [hget, h4]; rfl
      have hcat : (s.onlyF ys k).map Yd.enc ++ [y.enc] = (s.onlyF ys (k + 1)).map Yd.enc := by rw [hadd, hY, List.map_append]; rfl
      refine ⟨trivial, iff' (by rw [beq_self]; rfl) ⟨rfl, hbb, _, hcat, ?_⟩⟩
      refine ⟨(k : Int) + 1, wrap64 (by omega) (by omega), ?_⟩
      exact ⟨⟨rfl, rfl⟩, ⟨k + 1, g + 1, hk', rfl⟩, less⟩
  · have h3 := of_decide_eq_false h3
    rw [yd_len] at h3
    have hk' : k = s.yards.length := by omega
    have he : s.only ys = ⟨s.onlyF ys k, s.drifts, s.spread⟩ := by rw [hk']; rfl
    rw [he]
    exact reify_agg (mapO_cons (reify_sl rfl rfl) rfl)

end Go.Proofs.Water

namespace Go.Proofs.Water
open Go.V Go.Proofs

def namesOk : List ByteArray → List ByteArray → Bool
  | _, [] => true
  | pre, n :: r => (nameB n && !(pre.any fun m => sameS m n)) && namesOk (pre ++ [n]) r
theorem fresh_names (pre : List Yd) (n : ByteArray) : (freshE pre n == 0) = (nameB n && !((pre.map Yd.name).any fun m => sameS m n)) := by
  have e : ((pre.map Yd.name).any fun m => sameS m n) = pre.any fun x => sameS x.name n := by rw [List.any_map]; rfl
  rw [e]
  unfold freshE
  cases nameB n <;> cases (pre.any fun x => sameS x.name n) <;> rfl
def Yd.ok (x : Yd) : Prop := (0 ≤ x.at' ∧ x.at' ≤ 100) ∧ 0 ≤ x.kinds ∧ x.kinds ≤ 3
theorem yardE_iff (pre : List Yd) (x : Yd) : yardE pre x = 0 ↔ (freshE pre x.name == 0) = true ∧ x.ok := by
  unfold yardE
  cases hf : freshE pre x.name == 0 with
  | false =>
    have h0 : ¬ freshE pre x.name = 0 := by simpa using hf
    exact ⟨fun h => absurd h h0, fun h => by cases h.1⟩
  | true =>
    cases h1 : [x.at'].any (outB 0 100) || [x.kinds].any (outB 0 3) with
    | true =>
      refine ⟨fun h => (by cases h), fun h => ?_⟩
      have h2 := h.2
      unfold Yd.ok at h2
      simp [outB] at h1
      omega
    | false =>
      refine ⟨fun _ => ⟨rfl, ?_⟩, fun _ => rfl⟩
      unfold Yd.ok
      simp [outB] at h1
      omega
theorem yardsE_iff : ∀ (l pre : List Yd) (i : Int), yardsE pre l i = none ↔ namesOk (pre.map Yd.name) (l.map Yd.name) = true ∧ ∀ x ∈ l, x.ok
  | [], pre, i => by simp [yardsE, namesOk]
  | x :: r, pre, i => by
    have hz := yardE_iff pre x
    rw [fresh_names] at hz
    have ih := yardsE_iff r (pre ++ [x]) (i + 1)
    rw [List.map_append] at ih
    have ih : yardsE (pre ++ [x]) r (i + 1) = none ↔ namesOk (pre.map Yd.name ++ [x.name]) (r.map Yd.name) = true ∧ ∀ x ∈ r, x.ok := ih
    unfold yardsE
    rw [List.map_cons, namesOk, Bool.and_eq_true]
    cases h : yardE pre x != 0 with
    | true =>
      have h : ¬ yardE pre x = 0 := by simpa using h
      refine ⟨fun e => (by cases e), fun e => absurd (hz.2 ⟨e.1.1, e.2 x (by simp)⟩) h⟩
    | false =>
      have h : yardE pre x = 0 := by simpa using h
      obtain ⟨h1, h2⟩ := hz.1 h
      show yardsE (pre ++ [x]) r (i + 1) = none ↔ _
      rw [ih]
      constructor
      · rintro ⟨a, b⟩
        exact ⟨⟨h1, a⟩, fun y hy => by
          rcases List.mem_cons.1 hy with rfl | hy
          · exact h2
          · exact b y hy⟩
      · rintro ⟨a, b⟩
        exact ⟨a.2, fun y hy => b y (by simp [hy])⟩
def Sp.ok (b : Sp) : Prop := -10 ≤ b.lo ∧ b.lo ≤ b.hi ∧ b.hi ≤ 10 ∧ b.hi ≤ b.lo + 6
theorem driftsE_iff : ∀ (l : List Sp) (i : Int), driftsE l i = none ↔ ∀ b ∈ l, b.ok
  | [], i => by simp [driftsE]
  | b :: r, i => by
    have ih := driftsE_iff r (i + 1)
    unfold driftsE
    have hb : b.ok ↔ ([b.lo, b.hi].any (outB (-10) 10) = false ∧ [b.hi].any (outB b.lo (b.lo + 6)) = false) := by
      unfold Sp.ok
      simp [outB]
      omega
    constructor
    · intro h
      cases h1 : [b.lo, b.hi].any (outB (-10) 10) with
      | true => rw [h1] at h; cases h
      | false =>
        rw [h1] at h
        cases h2 : [b.hi].any (outB b.lo (b.lo + 6)) with
        | true => rw [h2] at h; cases h
        | false =>
          rw [h2] at h
          intro x hx
          rcases List.mem_cons.1 hx with rfl | hx
          · exact hb.2 ⟨h1, h2⟩
          · exact ih.1 h x hx
    · intro h
      obtain ⟨h1, h2⟩ := hb.1 (h b (by simp))
      rw [h1, h2]
      exact ih.2 fun x hx => h x (by simp [hx])

theorem err0_iff (s : Sh) : s.err0 = 0 ↔ s.Valid ∧ namesOk [] (s.yards.map Yd.name) = true := by
  constructor
  · intro h
    refine ⟨valid_of h, ?_⟩
    unfold Sh.err0 Sh.check at h
    split at h
    · cases h
    · split at h
      · cases h
      · unfold Sh.check1 at h
        split at h
        · rename_i r h3
          exact absurd h (yardsE_ne h3)
        · rename_i h3
          exact ((yardsE_iff s.yards [] 0).1 h3).1
  · rintro ⟨hv, hn⟩
    have h1 : s.badL = false := by
      have := hv.yl; have := hv.dl
      unfold Sh.badL
      simp [outB]
      omega
    have h2 : [s.spread].any (outB 0 10) = false := by
      have := hv.sp
      simp [outB]
      omega
    have h3 : yardsE [] s.yards 0 = none := (yardsE_iff s.yards [] 0).2 ⟨hn, fun x hx => hv.y x hx⟩
    have h4 : driftsE s.drifts 0 = none := (driftsE_iff s.drifts 0).2 fun b hb => hv.d b hb
    unfold Sh.err0 Sh.check Sh.check1 Sh.check2
    rw [h1, h2, h3, h4]
theorem open_iff (s : Sh) (l : List Smp) : s.openE l = 0 ↔ s.Valid ∧ namesOk [] (s.yards.map Yd.name) = true ∧ l.length ≤ 8 ∧ ∀ x ∈ l, s.okX x := by
  constructor
  · intro h
    have hok := ok_of h
    refine ⟨hok.v, ?_, hok.ll, hok.x⟩
    unfold Sh.openE at h
    cases h1 : s.err0 != 0 with
    | true =>
      rw [h1] at h
      have h1 : ¬ s.err0 = 0 := by simpa using h1
      exact absurd h h1
    | false => exact ((err0_iff s).1 (by simpa using h1)).2
  · rintro ⟨hv, hn, hl, hx⟩
    have h0 := (err0_iff s).2 ⟨hv, hn⟩
    have h1 : (s.err0 != 0) = false := by simp [h0]
    have h2 : decide ((l.length : Int) > 8) = false := decide_eq_false (by omega)
    unfold Sh.openE
    rw [h1, h2]
    exact lstE_zero.2 fun x h => smpE_zero.2 (hx x h)

/-! ### Some yards alone -/

theorem hasB_iff {l : List Int} {n : Int} : hasB l n = true ↔ n ∈ l := by
  unfold hasB
  rw [List.any_eq_true]
  constructor
  · rintro ⟨x, hx, h⟩
    have : x = n := by simpa using h
    rw [← this]; exact hx
  · intro h
    exact ⟨n, h, by simp⟩
theorem only_get {s : Sh} {ys : List Int} {i : Nat} (h : i < s.yards.length) : (s.only ys).yards[i]? = some (s.onlyY ys i) := by
  unfold Sh.only Sh.onlyF
  simp [h]
theorem only_len (s : Sh) (ys : List Int) : (s.only ys).yards.length = s.yards.length := onlyF_len _ _ _
theorem only_at (s : Sh) (ys : List Int) (i : Nat) : (s.only ys).atY i = s.atY i := by
  unfold Sh.atY
  by_cases h : i < s.yards.length
  · rw [only_get h, List.getElem?_eq_getElem h]
    unfold Sh.onlyY
    rw [List.getElem?_eq_getElem h]
  · rw [List.getElem?_eq_none (by rw [only_len]; omega), List.getElem?_eq_none (by omega)]
theorem only_kinds (s : Sh) (ys : List Int) (i : Nat) : (s.only ys).kindsY i = if hasB ys i = true then s.kindsY i else 0 := by
  unfold Sh.kindsY
  by_cases h : i < s.yards.length
  · rw [only_get h, List.getElem?_eq_getElem h]
    unfold Sh.onlyY
    rw [List.getElem?_eq_getElem h]
    cases hasB ys i <;> rfl
  · rw [List.getElem?_eq_none (by rw [only_len]; omega), List.getElem?_eq_none (by omega)]
    cases hasB ys i <;> rfl
theorem only_in (s : Sh) (ys : List Int) (d : List Int) (y k t : Nat) (x : Smp) : (s.only ys).inS d y k t x = s.inS d y k t x := by
  unfold Sh.inS
  rw [only_at]
  rfl
theorem only_all (s : Sh) (ys : List Int) : (s.only ys).all = s.all := by unfold Sh.all; rw [only_len]
theorem only_spills {s : Sh} {ys : List Int} {m : Nat} (hm : ∀ i : Nat, i < s.yards.length → m.testBit i = hasB ys i) (q : Q) : q ∈ (s.only ys).spills (s.only ys).all ↔ q ∈ s.spills m := by
  rw [spills_iff, spills_iff, only_len, only_kinds, only_all, all_bit]
  have hd : (s.only ys).drifts = s.drifts := rfl
  rw [hd]
  constructor
  · rintro ⟨h1, h2, h3⟩
    have h2 := of_decide_eq_true h2
    rw [hm _ h2]
    split at h3
    · rename_i h4; exact ⟨h1, h4, h3⟩
    · simp at h3
  · rintro ⟨h1, h2, h3⟩
    have h4 := (prefY_mem (k := q.2.1) (t := q.2.2).1 h1).1
    rw [hm _ h4] at h2
    exact ⟨h1, decide_eq_true h4, by rw [if_pos h2]; exact h3⟩
theorem only_expl {s : Sh} {l : List Smp} (hl : l.length ≤ 8) {ys : List Int} {m : Nat} (hm : ∀ i : Nat, i < s.yards.length → m.testBit i = hasB ys i) : (s.only ys).expl l (s.only ys).all = s.expl l m := by
  apply Bool.eq_iff_iff.2
  rw [expl_iff hl, expl_iff hl]
  have hd : (s.only ys).drifts = s.drifts := rfl
  rw [hd]
  have hsp := only_spills hm
  constructor
  · rintro ⟨d, hd, h⟩
    refine ⟨d, hd, Tr.expl (s := s.only ys) (d := d) (l := l) ⟨fun x hx hf => ⟨x, hx, hf, fun q _ h => ?_⟩, fun x hx hf => ⟨x, hx, hf, fun q _ h => ?_⟩⟩ (fun q hq => (hsp q).1 hq) h⟩
    · rw [only_in] at h; exact h
    · rw [only_in]; exact h
  · rintro ⟨d, hd, h⟩
    refine ⟨d, hd, Tr.expl (s := s) (d := d) (l := l) ⟨fun x hx hf => ⟨x, hx, hf, fun q _ h => ?_⟩, fun x hx hf => ⟨x, hx, hf, fun q _ h => ?_⟩⟩ (fun q hq => (hsp q).2 hq) h⟩
    · rw [only_in]; exact h
    · rw [only_in] at h; exact h
theorem only_open {s : Sh} {l : List Smp} (h : s.openE l = 0) (ys : List Int) : (s.only ys).openE l = 0 := by
  obtain ⟨hv, hn, hl, hx⟩ := (open_iff s l).1 h
  refine (open_iff _ l).2 ⟨⟨by rw [only_len]; exact hv.yl, hv.dl, hv.sp, fun x hx => ?_, hv.d⟩, ?_, hl, hx⟩
  · obtain ⟨i, hi⟩ := List.mem_iff_getElem?.1 hx
    have hil : i < s.yards.length := by rw [← only_len s ys]; exact (List.getElem?_eq_some_iff.1 hi).1
    rw [only_get hil] at hi
    cases hi
    have h1 := hv.y s.yards[i] (List.getElem_mem hil)
    unfold Sh.onlyY
    rw [List.getElem?_eq_getElem hil]
    refine ⟨h1.1, ?_⟩
    simp only
    split
    · exact h1.2
    · omega
  · have e : (s.only ys).yards.map Yd.name = s.yards.map Yd.name := by
      apply List.ext_getElem?
      intro i
      rw [List.getElem?_map, List.getElem?_map]
      by_cases hi : i < s.yards.length
      · rw [only_get hi, List.getElem?_eq_getElem hi]
        unfold Sh.onlyY
        rw [List.getElem?_eq_getElem hi]
        rfl
      · rw [List.getElem?_eq_none (by rw [only_len]; omega), List.getElem?_eq_none (by omega)]
    rw [e]; exact hn
theorem agree_open {s : Sh} {l : List Smp} (h : s.openE l = 0) : s.agreeR l = (s.expl l s.all, 0) := by
  unfold Sh.agreeR; rw [h]; rfl
theorem agree_only {s : Sh} {l : List Smp} (h : s.openE l = 0) {ys : List Int} {m : Nat} (hm : ∀ i : Nat, i < s.yards.length → m.testBit i = hasB ys i) : (s.only ys).agreeR l = (s.expl l m, 0) := by
  rw [agree_open (only_open h ys), only_expl (ok_of h).ll hm]

/-! ### Who must be a source -/

theorem enter_open {s : Sh} {l : List Smp} (h : s.openE l = 0) : s.enterE l = if s.expl l s.all = true then 0 else 9 := by
  unfold Sh.enterE Sh.agreedE
  rw [h]
  cases s.expl l s.all <;> rfl
theorem enter_bad {s : Sh} {l : List Smp} (h : s.openE l ≠ 0) : s.enterE l = s.openE l := by
  unfold Sh.enterE Sh.agreedE
  have : (s.openE l == 0) = false := by simpa using h
  rw [this]
theorem mustR_ok {s : Sh} {l : List Smp} (h : s.openE l = 0) (he : s.expl l s.all = true) : s.mustR l = (s.mustL l s.yards.length, 0) := by
  unfold Sh.mustR; rw [enter_open h, if_pos he]; rfl
theorem mustR_no {s : Sh} {l : List Smp} (h : s.enterE l ≠ 0) : s.mustR l = ([], s.enterE l) := by
  unfold Sh.mustR
  have : (s.enterE l != 0) = true := by simpa using h
  rw [this]
theorem fewestR_ok {s : Sh} {l : List Smp} (h : s.openE l = 0) (he : s.expl l s.all = true) : s.fewestR l = (yardsZ (bestN (s.expl l) s.all (2 ^ s.yards.length)), 0) := by
  unfold Sh.fewestR; rw [enter_open h, if_pos he]; rfl
theorem fewestR_no {s : Sh} {l : List Smp} (h : s.enterE l ≠ 0) : s.fewestR l = ([], s.enterE l) := by
  unfold Sh.fewestR
  have : (s.enterE l != 0) = true := by simpa using h
  rw [this]
theorem sourcesR_ok {s : Sh} {l : List Smp} (h : s.openE l = 0) (he : s.expl l s.all = true) : s.sourcesR l = (yardsZ (s.can l (fnd l)), 0) := by
  unfold Sh.sourcesR; rw [enter_open h, if_pos he]; rfl
theorem sourcesR_no {s : Sh} {l : List Smp} (h : s.enterE l ≠ 0) : s.sourcesR l = ([], s.enterE l) := by
  unfold Sh.sourcesR
  have : (s.enterE l != 0) = true := by simpa using h
  rw [this]
theorem canR_ok {s : Sh} {l : List Smp} (h : s.openE l = 0) (he : s.expl l s.all = true) {i : Nat} {x : Smp} (hx : l[i]? = some x) (hf : x.found = true) : s.canR l i = (yardsZ (s.can l (2 ^ i)), 0) := by
  have hi := (List.getElem?_eq_some_iff.1 hx).1
  have hg : givenE l i = 0 := by
    unfold givenE
    have h1 : [(i : Int)].any (outB 0 ((l.length : Int) - 1)) = false := by simp [outB]; omega
    rw [h1]
    have h2 : foundAt l ((i : Int)).toNat = true := by rw [Int.toNat_natCast, foundAt_get hx]; exact hf
    rw [h2]
  have hfe : s.foundE l i = 0 := by
    unfold Sh.foundE
    rw [h, hg]; rfl
  have ha : s.agreedE l (s.foundE l i) = 0 := by
    unfold Sh.agreedE
    rw [hfe, he]; rfl
  unfold Sh.canR
  rw [ha]
  rfl

theorem mustL_mem {s : Sh} {l : List Smp} {n y : Nat} : (y : Int) ∈ s.mustL l n ↔ y < n ∧ s.expl l (diff s.all (2 ^ y)) = false := by
  unfold Sh.mustL
  simp only [List.mem_map, List.mem_filter, List.mem_range]
  constructor
  · rintro ⟨a, ⟨h1, h2⟩, h3⟩
    have : a = y := by omega
    subst this
    exact ⟨h1, by simpa using h2⟩
  · rintro ⟨h1, h2⟩
    exact ⟨y, ⟨h1, by rw [h2]; rfl⟩, rfl⟩
theorem mustL_nat {s : Sh} {l : List Smp} {n : Nat} {z : Int} (h : z ∈ s.mustL l n) : ∃ y : Nat, z = y ∧ y < n ∧ s.expl l (diff s.all (2 ^ y)) = false := by
  have h' := h
  unfold Sh.mustL at h'
  simp only [List.mem_map] at h'
  obtain ⟨a, _, rfl⟩ := h'
  exact ⟨a, rfl, mustL_mem.1 h⟩
theorem others_mask {s : Sh} (y : Nat) : ∀ i : Nat, i < s.yards.length → (diff s.all (2 ^ y)).testBit i = hasB (othersL s.yards.length y) i := fun i hi => by
  apply Bool.eq_iff_iff.2
  rw [diff_bit, all_bit, pow_bit, hasB_iff]
  unfold othersL
  simp only [List.mem_filter, List.mem_map, List.mem_range]
  simp [hi]
  constructor
  · intro h
    exact ⟨⟨i, hi, rfl⟩, by omega⟩
  · rintro ⟨_, h⟩; omega

/-- If just one yard can be in a sample in which something was found, it must be a source. -/
theorem must_one {s : Sh} {l : List Smp} (h : s.Ok l) (he : s.expl l s.all = true) {i : Nat} {x : Smp} (hx : l[i]? = some x) (hf : x.found = true) :
    (yardsZ (s.can l (2 ^ i))).length ≠ 0 ∧ ∀ z, yardsZ (s.can l (2 ^ i)) = [z] → z ∈ s.mustL l s.yards.length := by
  have hxl := List.mem_of_getElem? hx
  have hmem : ∀ y, (s.can l (2 ^ i)).testBit y = true → (y : Int) ∈ yardsZ (s.can l (2 ^ i)) := fun y hy => by
    have h1 := can_yard h.v h.ll hy
    have := h.v.yl
    exact yardsZ_mem.2 ⟨y, by omega, hy, rfl⟩
  constructor
  · obtain ⟨d, hd, h1⟩ := (expl_iff h.ll s.all).1 he
    obtain ⟨y, _, hy⟩ := expl1_yard (fun _ h => h) h1 hxl hf
    have h2 := hmem y ((can_one h.v h.ll hx y).2 ⟨d, hd, hy⟩)
    intro h3
    rw [List.eq_nil_of_length_eq_zero h3] at h2
    cases h2
  · intro z hz
    have hzm : z ∈ yardsZ (s.can l (2 ^ i)) := by rw [hz]; simp
    obtain ⟨y, hy5, hyb, rfl⟩ := yardsZ_mem.1 hzm
    have hyl := can_yard h.v h.ll hyb
    refine mustL_mem.2 ⟨hyl, ?_⟩
    cases hexp : s.expl l (diff s.all (2 ^ y)) with
    | false => rfl
    | true =>
      exfalso
      obtain ⟨d, hd, h1⟩ := (expl_iff h.ll _).1 hexp
      obtain ⟨y', hy'b, hy'⟩ := expl1_yard (fun j hj => by rw [diff_bit, Bool.and_eq_true] at hj; exact hj.1) h1 hxl hf
      have h2 := hmem y' ((can_one h.v h.ll hx y').2 ⟨d, hd, hy'⟩)
      rw [hz] at h2
      have : (y' : Int) = y := by simpa using h2
      have : y' = y := by omega
      subst this
      rw [diff_bit, pow_bit] at hy'b
      simp at hy'b

end Go.Proofs.Water

namespace Go.Proofs.Water
open Go.V Go.Proofs

theorem listD_congr {p : List Int × Int} {l : List Int} {e : Int} {k : Nat} {ds : List D} (h : DN k ds (listD p)) (he : p = (l, e)) : DN k ds (.tup [.list 1 (l.map encI), .int .i64 e]) := by subst he; exact h
theorem agreeD_congr {p : Bool × Int} {b : Bool} {e : Int} {k : Nat} {ds : List D} (h : DN k ds (agreeD p)) (he : p = (b, e)) : DN k ds (.tup [.bool b, .int .i64 e]) := by subst he; exact h
theorem mustL_small {s : Sh} (hv : s.Valid) (l : List Smp) : (s.mustL l s.yards.length).length ≤ 5 := by
  have h1 := mustL_len s l s.yards.length
  have := hv.yl
  omega

set_option maxRecDepth 8000 in
set_option maxHeartbeats 4000000 in
theorem den8 (s : Sh) (l : List Smp) (w : Int) (hw : 0 ≤ w ∧ w < 256) : DN 8 [.agg s.enc, .list 4 (l.map Smp.enc), .int .u8 w] (.bool true) := by
  refine mk Tryd.func8 Tryd.call8 rfl rfl ?_
  have eqs : ∀ n : Int, (n == n) = true := fun n => by simp
  have h43 := den43 s l
  by_cases ho : s.openE l = 0
  rotate_left
  · have hent := enter_bad ho
    have h25 := listD_congr (den25 s l) (mustR_no (by rw [hent]; exact ho))
    rw [hent] at h25
    obtain ⟨e, he⟩ : ∃ e, s.openE l = e := ⟨_, rfl⟩
    rw [he] at h25 h43 ho
    refine ⟨_, rfl, _, h25, ?_⟩
    refine ⟨_, rfl, _, h43, ?_⟩
    refine ⟨fun _ => ?_, fun h => absurd (by simpa using h) ho⟩
    refine ⟨fun _ => ?_, fun h => absurd ((eqs _).symm.trans h) (by decide)⟩
    refine ⟨fun _ => ?_, fun h => absurd h (by decide)⟩
    exact ⟨_, rfl, _, den22, rfl⟩
  have hok := ok_of ho
  have hv := hok.v
  have hyl := hv.yl
  rw [ho] at h43
  have h17 := agreeD_congr (den17 s l) (agree_open ho)
  cases hx : s.expl l s.all with
  | false =>
    have hent : s.enterE l = 9 := by rw [enter_open ho, hx]; rfl
    have h25 := listD_congr (den25 s l) (mustR_no (by rw [hent]; decide))
    rw [hent] at h25
    rw [hx] at h17
    refine ⟨_, rfl, _, h25, ?_⟩
    refine ⟨_, rfl, _, h43, ?_⟩
    refine ⟨fun h => absurd h (by decide), fun _ => ?_⟩
    refine ⟨_, rfl, _, h17, ?_⟩
    refine ⟨fun h => absurd h (by decide), fun _ => ?_⟩
    refine ⟨fun h => absurd h (by decide), fun _ => ?_⟩
    refine ⟨fun _ => ?_, fun h => absurd h (by decide)⟩
    refine ⟨fun _ => ?_, fun h => absurd h (by decide)⟩
    refine ⟨fun _ => ?_, fun h => absurd h (by decide)⟩
    exact ⟨_, rfl, _, den22, rfl⟩
  | true =>
    have h25 := listD_congr (den25 s l) (mustR_ok ho hx)
    rw [hx] at h17
    have hMl := mustL_small hv l
    have hMm := fun y => mustL_mem (s := s) (l := l) (n := s.yards.length) (y := y)
    have hone := fun i x => must_one (i := i) (x := x) hok hx
    obtain ⟨M, hM⟩ : ∃ M, s.mustL l s.yards.length = M := ⟨_, rfl⟩
    rw [hM] at h25 hMl hMm hone
    have hr := tmod_range hw.1 (k := s.yards.length) (by omega)
    obtain ⟨y, hy⟩ : ∃ y : Nat, w.tmod s.yards.length = y := ⟨(w.tmod s.yards.length).toNat, by omega⟩
    rw [hy] at hr
    have hyn : y < s.yards.length := by omega
    have h45 := den45 s y hyl.2
    have hol := othersL_len s.yards.length y
    have h44 := den44 s (othersL s.yards.length y) hyl.2 (by omega)
    have h17o := agreeD_congr (den17 _ l) (agree_only ho (others_mask (s := s) y))
    have h40 := den40 M y (by omega)
    have hne : (hasB M y == s.expl l (diff s.all (2 ^ y))) = false := by
      have h1 := hMm y
      have h2 := hasB_iff (l := M) (n := (y : Int))
      cases h3 : s.expl l (diff s.all (2 ^ y)) with
      | false =>
        have : hasB M y = true := h2.2 (h1.2 ⟨hyn, h3⟩)
        rw [this]; rfl
      | true =>
        cases h4 : hasB M y with
        | false => rfl
        | true =>
          have := (h1.1 (h2.1 h4)).2
          rw [h3] at this; cases this
    obtain ⟨so, hsoe⟩ : ∃ so, s.expl l (diff s.all (2 ^ y)) = so := ⟨_, rfl⟩
    rw [hsoe] at h17o hne
    refine ⟨_, rfl, _, h25, ?_⟩
    refine ⟨_, rfl, _, h43, ?_⟩
    refine ⟨fun h => absurd h (by decide), fun _ => ?_⟩
    refine ⟨_, rfl, _, h17, ?_⟩
    refine ⟨fun h => absurd h (by decide), fun _ => ?_⟩
    refine ⟨fun h => absurd h (by decide), fun _ => ?_⟩
    refine ⟨fun h => absurd h (by decide), fun _ => ?_⟩
    refine ⟨w, wrap64 (by omega) (by omega), ?_⟩
    refine ⟨by rw [yd_len]; omega, (y : Int), by rw [yd_len]; exact hy, ?_⟩
    refine Or.inl ⟨by kernel_rfl, ?_⟩
    refine ⟨_, rfl, _, h45, ?_⟩
    refine ⟨_, rfl, _, h44, ?_⟩
    refine ⟨_, rfl, _, h17o, ?_⟩
    refine ⟨fun h => absurd h (by decide), fun _ => ?_⟩
    refine ⟨_, rfl, _, h40, ?_⟩
    refine ⟨fun h => absurd (hne.symm.trans h) (by decide), fun _ => ?_⟩
    refine ⟨[1, 3, 7, 15], 1, [], fun σ => ∃ i : Nat, i ≤ l.length ∧
      σ = ⟨[(1, .list 4 (l.map Smp.enc)), (3, .loc 0 0), (7, .list 1 (M.map encI)), (15, .int .i64 i)], [.flat false s.enc], .non⟩,
      fun σ => (1000 - slotI 15 σ).toNat, rfl, ⟨rfl, rfl⟩, ⟨0, Nat.zero_le _, rfl⟩, ?_⟩
    rintro σ ⟨i, hi, rfl⟩
    have hll := hok.ll
    refine ⟨fun h3 => ?_, fun h3 => ?_⟩
    rotate_left
    · exact ⟨_, rfl, _, den22, rfl⟩
    have h3 := of_decide_eq_true h3
    rw [smp_lenI] at h3
    have hi' : i < l.length := by omega
    obtain ⟨x, hxi⟩ : ∃ x, l[i] = x := ⟨_, rfl⟩
    have hgx : l[i]? = some x := by rw [List.getElem?_eq_getElem hi', hxi]
    have hrow : (l.map Smp.enc)[((i : Int)).toNat]? = some (x.enc) := by simp [hi', hxi]
    have less : (1000 - ((i : Int) + 1)).toNat < (1000 - (i : Int)).toNat := by omega
    have hone := hone i x hgx
    refine ⟨by omega, _, hrow, ?_⟩
    refine ⟨fun h4 => ?_, fun h4 => ?_⟩
    · refine ⟨(i : Int) + 1, wrap64 (by omega) (by omega), ?_⟩
      exact ⟨⟨rfl, rfl⟩, ⟨i + 1, hi', rfl⟩, less⟩
    have hf : x.found = true := by
      have h4 : (!x.found) = false := h4
      simpa using h4
    have h19 := listD_congr (den19 s l i) (canR_ok ho hx hgx hf)
    obtain ⟨hc0, hc1⟩ := hone hf
    have hCl := yardsZ_le (s.can l (2 ^ i))
    obtain ⟨C, hC⟩ : ∃ C, yardsZ (s.can l (2 ^ i)) = C := ⟨_, rfl⟩
    rw [hC] at h19 hc0 hc1 hCl
    refine ⟨_, rfl, _, h19, ?_⟩
    refine ⟨fun h => absurd h (by decide), fun _ => ?_⟩
    refine ⟨fun h5 => ?_, fun _ => ?_⟩
    · exfalso
      have h5 : (((C.map encI).length : Int) == 0) = true := h5
      rw [encI_len] at h5
      have h5 : C.length = 0 := by simpa using h5
      exact hc0 h5
    refine ⟨fun h5 => ?_, fun _ => ?_⟩
    · have h5 : (((C.map encI).length : Int) == 1) = true := h5
      rw [encI_len] at h5
      have h5 : C.length = 1 := by
        have : (C.length : Int) = 1 := by simpa using h5
        omega
      obtain ⟨z, hz⟩ := List.length_eq_one_iff.1 h5
      have hzM := hasB_iff.2 (hc1 z hz)
      have hr0 : (C.map encI)[((0 : Int)).toNat]? = some [.int .i64 z] := by rw [hz]; rfl
      refine ⟨by decide, _, hr0, ?_⟩
      refine ⟨_, rfl, _, den40 M z (by omega), ?_⟩
      refine ⟨fun h => ?_, fun _ => ?_⟩
      · have h : (!(hasB M z)) = true := h
        rw [hzM] at h; cases h
      refine ⟨(i : Int) + 1, wrap64 (by omega) (by omega), ?_⟩
      exact ⟨⟨rfl, rfl⟩, ⟨i + 1, hi', rfl⟩, less⟩
    refine ⟨(i : Int) + 1, wrap64 (by omega) (by omega), ?_⟩
    exact ⟨⟨rfl, rfl⟩, ⟨i + 1, hi', rfl⟩, less⟩

end Go.Proofs.Water

namespace Go.Proofs.Water
open Go.V Go.Proofs

def otherL (n b : Nat) : List Int := ((List.range n).filter fun i => b.testBit i).map fun i : Nat => (i : Int)
theorem otherL_len (n b : Nat) : (otherL n b).length ≤ n := by
  unfold otherL
  rw [List.length_map]
  exact Nat.le_trans (List.length_filter_le _ _) (by simp)
theorem otherL_add {n b : Nat} (h : b.testBit n = true) : otherL (n + 1) b = otherL n b ++ [(n : Int)] := by
  unfold otherL
  rw [List.range_succ, List.filter_append]
  simp [h]
theorem otherL_skip {n b : Nat} (h : b.testBit n = false) : otherL (n + 1) b = otherL n b := by
  unfold otherL
  rw [List.range_succ, List.filter_append]
  simp [h]
theorem filter_range {p : Nat → Bool} {n : Nat} (h : ∀ i, n ≤ i → p i = false) : ∀ j, (List.range (n + j)).filter p = (List.range n).filter p
  | 0 => rfl
  | j + 1 => by
    rw [← Nat.add_assoc, List.range_succ, List.filter_append, filter_range h j]
    simp [h (n + j) (Nat.le_add_right _ _)]
theorem otherL_card {n b : Nat} (h : n ≤ 5) : (otherL n b).length = card (setOf n b.testBit) := by
  unfold otherL card yardsL
  rw [List.length_map]
  have h1 : (List.range 5).filter (fun i => (setOf n b.testBit).testBit i) = (List.range n).filter fun i => (setOf n b.testBit).testBit i := by
    have := filter_range (p := fun i => (setOf n b.testBit).testBit i) (n := n) (fun i hi => by simp only [setOf_bit]; rw [decide_eq_false (by omega)]; rfl) (5 - n)
    rw [show n + (5 - n) = 5 by omega] at this
    exact this
  rw [h1]
  congr 1
  apply List.filter_congr
  intro i hi
  rw [setOf_bit, decide_eq_true (List.mem_range.1 hi)]
  rfl
theorem otherL_mask {n b : Nat} : ∀ i : Nat, i < n → (setOf n b.testBit).testBit i = hasB (otherL n b) i := fun i hi => by
  apply Bool.eq_iff_iff.2
  rw [setOf_bit, hasB_iff, decide_eq_true hi, Bool.true_and]
  unfold otherL
  simp only [List.mem_map, List.mem_filter, List.mem_range]
  constructor
  · intro h; exact ⟨i, ⟨hi, h⟩, rfl⟩
  · rintro ⟨a, ⟨_, h⟩, e⟩
    have : a = i := by omega
    subst this; exact h
theorem yardsZ_mask {n B : Nat} (hn : n ≤ 5) : ∀ i : Nat, i < n → B.testBit i = hasB (yardsZ B) i := fun i hi => by
  apply Bool.eq_iff_iff.2
  rw [hasB_iff, yardsZ_mem]
  constructor
  · intro h; exact ⟨i, by omega, h, rfl⟩
  · rintro ⟨a, _, h, e⟩
    have : a = i := by omega
    subst this; exact h
theorem withinB_iff {a b : List Int} : withinB a b = true ↔ ∀ z ∈ a, z ∈ b := by
  unfold withinB
  rw [List.all_eq_true]
  constructor
  · intro h z hz; exact hasB_iff.1 (h z hz)
  · intro h z hz; exact hasB_iff.2 (h z hz)

/-- All that must be a source are among the yards of each set that explains. -/
theorem must_in {s : Sh} {l : List Smp} (hl : l.length ≤ 8) (hv : s.Valid) {B : Nat} (hB : s.expl l B = true) (hBa : ∀ i, B.testBit i = true → s.all.testBit i = true) : withinB (s.mustL l s.yards.length) (yardsZ B) = true := by
  rw [withinB_iff]
  intro z hz
  obtain ⟨y, rfl, hy, he⟩ := mustL_nat hz
  have := hv.yl
  refine yardsZ_mem.2 ⟨y, by omega, ?_, rfl⟩
  cases hb : B.testBit y with
  | true => rfl
  | false =>
    have h1 := expl_mono hl (ys := B) (ys' := diff s.all (2 ^ y)) (fun i hi => by
      rw [diff_bit, hBa i hi, pow_bit]
      by_cases h : i = y
      · subst h; rw [hb] at hi; cases hi
      · simp [h]) hB
    rw [he] at h1; cases h1

theorem fewestR_small (s : Sh) (l : List Smp) : (s.fewestR l).1.length ≤ 5 := by
  unfold Sh.fewestR
  split
  · exact Nat.zero_le _
  · exact yardsZ_le _

set_option maxRecDepth 8000 in
set_option maxHeartbeats 4000000 in
theorem den9 (s : Sh) (l : List Smp) (b : Nat) (hb : b < 256) : DN 9 [.agg s.enc, .list 4 (l.map Smp.enc), .int .u8 b] (.bool true) := by
  refine mk Tryd.func9 Tryd.call9 rfl rfl ?_
  have eqs : ∀ n : Int, (n == n) = true := fun n => by simp
  have h43 := den43 s l
  by_cases ho : s.openE l = 0
  rotate_left
  · have hent := enter_bad ho
    have h27 := listD_congr (den27 s l) (fewestR_no (by rw [hent]; exact ho))
    rw [hent] at h27
    obtain ⟨e, he⟩ : ∃ e, s.openE l = e := ⟨_, rfl⟩
    rw [he] at h27 h43 ho
    refine ⟨_, rfl, _, h27, ?_⟩
    refine ⟨_, rfl, _, h43, ?_⟩
    refine ⟨fun _ => ?_, fun h => absurd (by simpa using h) ho⟩
    refine ⟨fun _ => ?_, fun h => absurd ((eqs _).symm.trans h) (by decide)⟩
    refine ⟨fun _ => ?_, fun h => absurd h (by decide)⟩
    exact ⟨_, rfl, _, den22, rfl⟩
  have hok := ok_of ho
  have hv := hok.v
  have hyl := hv.yl
  rw [ho] at h43
  have hFl := fewestR_small s l
  have hno := fun h => fewestR_no (s := s) (l := l) h
  have hyes := fun h => fewestR_ok (s := s) (l := l) ho h
  obtain ⟨⟨F, ee⟩, hp⟩ : ∃ p, s.fewestR l = p := ⟨_, rfl⟩
  have h27 := listD_congr (den27 s l) hp
  rw [hp] at hno hyes hFl
  have hOl := otherL_len s.yards.length b
  have h44 := den44 s (otherL s.yards.length b) hyl.2 (by omega)
  have h17o := agreeD_congr (den17 _ l) (agree_only ho (otherL_mask (n := s.yards.length) (b := b)))
  have hmb : ∀ i, (setOf s.yards.length b.testBit).testBit i = true → s.all.testBit i = true := fun i hi => by
    rw [setOf_bit, Bool.and_eq_true] at hi
    rw [all_bit]; exact hi.1
  have hcard := otherL_card (n := s.yards.length) (b := b) hyl.2
  have hmlt := setOf_lt b.testBit s.yards.length
  refine ⟨_, rfl, _, h27, ?_⟩
  refine ⟨_, rfl, _, h43, ?_⟩
  refine ⟨fun h => absurd h (by decide), fun _ => ?_⟩
  refine ⟨[1, 2, 3, 7, 8, 9, 10, 11], 1, [(.slot 10, 1)], fun σ => ∃ (k g : Nat), k ≤ s.yards.length ∧
    σ = ⟨[(1, .list 4 (l.map Smp.enc)), (2, .int .u8 b), (3, .loc 0 0), (7, .list 1 (F.map encI)), (8, .int .i64 ee), (9, .int .i64 0), (10, .sl 1 g 0 ((otherL k b).map encI).length), (11, .int .i64 k)], [.flat false s.enc, .rows false g 1 ((otherL k b).map encI)], .non⟩,
    fun σ => (1000 - slotI 11 σ).toNat, rfl, ⟨rfl, rfl⟩, ⟨0, 0, Nat.zero_le _, rfl⟩, ?_⟩
  rintro σ ⟨k, g, hk, rfl⟩
  have hml := otherL_len k b
  have less : (1000 - ((k : Int) + 1)).toNat < (1000 - (k : Int)).toNat := by omega
  refine ⟨fun h3 => ?_, fun h3 => ?_⟩
  · have h3 := of_decide_eq_true h3
    rw [yd_len] at h3
    have hk' : k < s.yards.length := by omega
    refine ⟨(b : Int), wrap64 (by omega) (by omega), ?_⟩
    refine ⟨_, rfl, _, den46 b k (by omega) (by omega), ?_⟩
    refine ⟨fun h4 => ?_, fun h4 => ?_⟩
    · have hcat : (otherL k b).map encI ++ [[D.int .i64 k]] = (otherL (k + 1) b).map encI := by rw [otherL_add h4]; simp [encI]
      refine ⟨trivial, iff' (by rw [beq_self]; rfl) ⟨rfl, ?_, _, hcat, ?_⟩⟩
      · rw [encI_len]; show (_ + 1) * 8 ≤ mostBytes; unfold mostBytes; omega
      refine ⟨(k : Int) + 1, wrap64 (by omega) (by omega), ?_⟩
      exact ⟨⟨rfl, rfl⟩, ⟨k + 1, g + 1, hk', rfl⟩, less⟩
    · refine ⟨(k : Int) + 1, wrap64 (by omega) (by omega), ?_⟩
      exact ⟨⟨rfl, rfl⟩, ⟨k + 1, g, hk', by rw [otherL_skip h4]; rfl⟩, less⟩
  have h3 := of_decide_eq_false h3
  rw [yd_len] at h3
  have hk' : k = s.yards.length := by omega
  rw [← hk'] at h44 h17o hcard
  obtain ⟨m, hm⟩ : ∃ m, setOf k b.testBit = m := ⟨_, rfl⟩
  rw [hm] at h17o hcard
  rw [← hk', hm] at hmb hmlt
  obtain ⟨O, hO⟩ : ∃ O, otherL k b = O := ⟨_, rfl⟩
  rw [hO] at h44 h17o hcard ⊢
  have hso : s.expl l s.all = false → s.expl l m = false := fun h => by
    cases h4 : s.expl l m with
    | false => rfl
    | true => rw [expl_mono hok.ll hmb h4] at h; cases h
  have hbm := fun hp => bestN_min (p := s.expl l) (all := s.all) (2 ^ s.yards.length) m (by rw [← hk']; exact hmlt) hp
  obtain ⟨so, hsoe⟩ : ∃ so, s.expl l m = so := ⟨_, rfl⟩
  rw [hsoe] at h17o hso hbm
  refine ⟨_, mapO_cons rfl (mapO_cons (reify_sl rfl rfl) rfl), _, h44, ?_⟩
  refine ⟨_, rfl, _, h17o, ?_⟩
  refine ⟨fun h => absurd h (by decide), fun _ => ?_⟩
  cases hx : s.expl l s.all with
  | false =>
    have hent : s.enterE l = 9 := by rw [enter_open ho, hx]; rfl
    have hpe := hno (by rw [hent]; decide)
    rw [hent] at hpe
    obtain ⟨rfl, rfl⟩ := Prod.mk.inj hpe
    have hs := hso hx
    subst hs
    refine ⟨fun _ => ?_, fun h => absurd h (by decide)⟩
    refine ⟨fun _ => ?_, fun h => absurd h (by decide)⟩
    refine ⟨fun _ => ?_, fun h => absurd h (by decide)⟩
    exact ⟨_, rfl, _, den22, rfl⟩
  | true =>
    have hpe := hyes hx
    have hBp := bestN_p (p := s.expl l) hx (2 ^ s.yards.length)
    have hall2 : s.all < 2 ^ s.yards.length := by have := Nat.two_pow_pos s.yards.length; unfold Sh.all; omega
    have hBlt := bestN_lt (s.expl l) hall2 (2 ^ s.yards.length) (Nat.le_refl _)
    obtain ⟨B, hB⟩ : ∃ B, bestN (s.expl l) s.all (2 ^ s.yards.length) = B := ⟨_, rfl⟩
    rw [hB] at hpe hBp hBlt hbm
    obtain ⟨rfl, rfl⟩ := Prod.mk.inj hpe
    have hBa : ∀ i, B.testBit i = true → s.all.testBit i = true := fun i hi => by
      rw [all_bit]
      refine decide_eq_true (Nat.lt_of_not_le fun hc => ?_)
      rw [Nat.testBit_lt_two_pow (Nat.lt_of_lt_of_le hBlt (Nat.pow_le_pow_right (by decide) hc))] at hi
      cases hi
    have hFl' : (yardsZ B).length ≤ 5 := yardsZ_le B
    have h44b := den44 s (yardsZ B) hyl.2 (by omega)
    have h17b : DN 17 [.agg (s.only (yardsZ B)).enc, .list 4 (l.map Smp.enc)] (.tup [.bool true, .int .i64 0]) := by
      have := agree_only ho (ys := yardsZ B) (m := B) (yardsZ_mask hyl.2)
      rw [hBp] at this
      exact agreeD_congr (den17 _ l) this
    have h25 := listD_congr (den25 s l) (mustR_ok ho hx)
    have hMl := mustL_small hv l
    have hwi := must_in hok.ll hv hBp hBa
    obtain ⟨M, hM⟩ : ∃ M, s.mustL l s.yards.length = M := ⟨_, rfl⟩
    rw [hM] at h25 hMl hwi
    have h42 := den42 M (yardsZ B) (by omega) (by omega)
    rw [hwi] at h42
    refine ⟨fun h => absurd h (by decide), fun _ => ?_⟩
    refine ⟨_, rfl, _, h44b, ?_⟩
    refine ⟨_, rfl, _, h17b, ?_⟩
    refine ⟨_, rfl, _, h25, ?_⟩
    refine ⟨fun _ => ?_, fun h => absurd h (by decide)⟩
    refine ⟨fun _ => ?_, fun h => absurd h (by decide)⟩
    refine ⟨fun _ => ?_, fun h => absurd h (by decide)⟩
    refine ⟨_, rfl, _, h42, ?_⟩
    refine ⟨fun _ => ?_, fun h => absurd h (by decide)⟩
    refine ⟨fun h5 => ?_, fun h5 => ?_⟩
    · exact ⟨_, rfl, _, den22, rfl⟩
    · have h5 : (!so) = false := h5
      have hst : so = true := by simpa using h5
      have hmin := hbm hst
      have hge : decide ((((O.map encI).length : Nat) : Int) ≥ (((yardsZ B).map encI).length : Nat)) = true := by
        refine decide_eq_true ?_
        rw [encI_len, encI_len, hcard, yardsZ_len]
        unfold card at hmin ⊢
        omega
      refine ⟨fun _ => ?_, fun h => absurd (hge.symm.trans h) (by decide)⟩
      exact ⟨_, rfl, _, den22, rfl⟩

end Go.Proofs.Water

namespace Go.Proofs.Water
open Go.V Go.Proofs

/-! ### With more samples -/
theorem expl_sub {s : Sh} {l l' : List Smp} (hl : l.length ≤ 8) (hl' : l'.length ≤ 8) (h : ∀ x ∈ l', x ∈ l) {ys : Nat} (he : s.expl l ys = true) : s.expl l' ys = true := by
  obtain ⟨d, hd, h1⟩ := (expl_iff hl ys).1 he
  exact (expl_iff hl' ys).2 ⟨d, hd, (Tr.sub h).expl (fun _ h => h) h1⟩
theorem all_lt2 (s : Sh) : s.all < 2 ^ s.yards.length := by have := Nat.two_pow_pos s.yards.length; unfold Sh.all; omega
theorem must_sub {s : Sh} {l l' : List Smp} (hl : l.length ≤ 8) (hl' : l'.length ≤ 8) (h : ∀ x ∈ l', x ∈ l) : withinB (s.mustL l' s.yards.length) (s.mustL l s.yards.length) = true := by
  rw [withinB_iff]
  intro z hz
  obtain ⟨y, rfl, hy, he⟩ := mustL_nat hz
  refine mustL_mem.2 ⟨hy, ?_⟩
  cases h1 : s.expl l (diff s.all (2 ^ y)) with
  | false => rfl
  | true => rw [expl_sub hl hl' h h1] at he; cases he
theorem best_sub {s : Sh} {l l' : List Smp} (hl : l.length ≤ 8) (hl' : l'.length ≤ 8) (h : ∀ x ∈ l', x ∈ l) (he : s.expl l s.all = true) :
    card (bestN (s.expl l') s.all (2 ^ s.yards.length)) ≤ card (bestN (s.expl l) s.all (2 ^ s.yards.length)) :=
  bestN_min _ _ (bestN_lt _ (all_lt2 s) _ (Nat.le_refl _)) (expl_sub hl hl' h (bestN_p he _))
theorem can_sub {s : Sh} (hv : s.Valid) {l l' : List Smp} (hl : l.length ≤ 8) (hl' : l'.length ≤ 8) (h : ∀ x ∈ l', x ∈ l) {i j : Nat} {x : Smp} (hx : l[i]? = some x) (hx' : l'[j]? = some x) :
    withinB (yardsZ (s.can l (2 ^ i))) (yardsZ (s.can l' (2 ^ j))) = true := by
  rw [withinB_iff]
  intro z hz
  obtain ⟨y, hy, hb, rfl⟩ := yardsZ_mem.1 hz
  refine yardsZ_mem.2 ⟨y, hy, ?_, rfl⟩
  obtain ⟨d, hd, hc⟩ := (can_one hv hl hx y).1 hb
  exact (can_one hv hl' hx' y).2 ⟨d, hd, (Tr.sub h).canAt (fun _ h => h) (fun _ _ h => h) hc⟩

set_option maxRecDepth 8000 in
set_option maxHeartbeats 4000000 in
theorem den10 (s : Sh) (l : List Smp) (x : Smp) (w : Int) (hw : 0 ≤ w ∧ w < 256) (hl : l.length * 32 ≤ 140737488351232) :
    DN 10 [.agg s.enc, .list 4 (l.map Smp.enc), .agg [.int .i64 x.place, .int .i64 x.tide, .int .i64 x.kind, .bool x.found, .int .u8 w]] (.bool true) := by
  refine mk Tryd.func10 Tryd.call10 rfl rfl ?_
  have hcat : l.map Smp.enc ++ [[D.int .i64 x.place, .int .i64 x.tide, .int .i64 x.kind, .bool x.found]] = (l ++ [x]).map Smp.enc := by simp [Smp.enc]
  have hb1 : (l.map Smp.enc).length * 32 ≤ mostBytes := by rw [List.length_map]; unfold mostBytes; omega
  have hb2 : ((l.map Smp.enc).length + 1) * 32 ≤ mostBytes := by rw [List.length_map]; unfold mostBytes; omega
  have h43 := den43 s (l ++ [x])
  refine Or.inr (Or.inl ⟨6, [], by kernel_rfl, ?_⟩)
  refine ⟨trivial, hb1, ?_⟩
  refine ⟨trivial, iff' (by rw [beq_self]; rfl) ⟨rfl, hb2, _, hcat, ?_⟩⟩
  refine ⟨trivial, ?_⟩
  refine ⟨trivial, ?_⟩
  by_cases ho : s.openE (l ++ [x]) = 0
  rotate_left
  · obtain ⟨e, he⟩ : ∃ e, s.openE (l ++ [x]) = e := ⟨_, rfl⟩
    rw [he] at h43 ho
    refine ⟨_, mapO_cons rfl (mapO_cons (reify_sl rfl rfl) rfl), _, h43, ?_⟩
    refine ⟨fun _ => ?_, fun h => absurd (by simpa using h) ho⟩
    exact ⟨_, rfl, _, den22, rfl⟩
  rw [ho] at h43
  refine ⟨_, mapO_cons rfl (mapO_cons (reify_sl rfl rfl) rfl), _, h43, ?_⟩
  refine ⟨fun h => absurd h (by decide), fun _ => ?_⟩
  have hok := ok_of ho
  have hv := hok.v
  have hsubl : ∀ y ∈ l, y ∈ l ++ [x] := fun y hy => List.mem_append_left _ hy
  have ho' : s.openE l = 0 := by
    obtain ⟨a, b, c, d⟩ := (open_iff s _).1 ho
    exact (open_iff s l).2 ⟨a, b, by simp at c; omega, fun y hy => d y (hsubl y hy)⟩
  have hok' := ok_of ho'
  have h17 := agreeD_congr (den17 s l) (agree_open ho')
  have h17' := agreeD_congr (den17 s (l ++ [x])) (agree_open ho)
  have hsub := expl_sub (s := s) hok.ll hok'.ll hsubl (ys := s.all)
  have hbest := best_sub (s := s) hok.ll hok'.ll hsubl
  have hcansub := fun i (hi : i < l.length) x' (hx' : l[i]? = some x') => can_sub hv hok.ll hok'.ll hsubl (i := i) (j := i) (x := x') (by rw [List.getElem?_append_left hi]; exact hx') hx'
  have hmsub := must_sub (s := s) hok.ll hok'.ll hsubl
  have h25 := fun h => listD_congr (den25 s l) (mustR_ok ho' h)
  have h25' := fun h => listD_congr (den25 s (l ++ [x])) (mustR_ok ho h)
  have h27 := fun h => listD_congr (den27 s l) (fewestR_ok ho' h)
  have h27' := fun h => listD_congr (den27 s (l ++ [x])) (fewestR_ok ho h)
  have hcan := fun i (hi : i < l.length) x' (hx' : l[i]? = some x') hf he => listD_congr (den19 s l i) (canR_ok ho' he hx' hf)
  have hcan' := fun i (hi : i < l.length) x' (hx' : l[i]? = some x') hf he => listD_congr (den19 s (l ++ [x]) i) (canR_ok ho he (by rw [List.getElem?_append_left hi]; exact hx') hf)
  have hM1 := mustL_small hv l
  have hM2 := mustL_small hv (l ++ [x])
  obtain ⟨L, hL⟩ : ∃ L, l ++ [x] = L := ⟨_, rfl⟩
  rw [hL] at h17' hsub hbest hcansub hmsub h25' h27' hcan' hM2 ⊢
  refine ⟨_, rfl, _, h17, ?_⟩
  refine ⟨_, mapO_cons rfl (mapO_cons (reify_sl rfl rfl) rfl), _, h17', ?_⟩
  refine ⟨fun h => absurd h (by decide), fun _ => ?_⟩
  refine ⟨fun h => absurd h (by decide), fun _ => ?_⟩
  cases hs : s.expl L s.all with
  | false =>
    refine ⟨fun h => absurd h (by decide), fun _ => ?_⟩
    refine ⟨fun _ => ?_, fun h => absurd h (by decide)⟩
    exact ⟨_, rfl, _, den22, rfl⟩
  | true =>
    have hi := hsub hs
    rw [hi]
    refine ⟨fun _ => ?_, fun h => absurd h (by decide)⟩
    refine ⟨fun h => absurd h (by decide), fun _ => ?_⟩
    refine ⟨fun h => absurd h (by decide), fun _ => ?_⟩
    have h25 := h25 hi
    have h25' := h25' hs
    have h27 := h27 hi
    have h27' := h27' hs
    have hbest := hbest hs
    obtain ⟨M1, e1⟩ : ∃ M, s.mustL l s.yards.length = M := ⟨_, rfl⟩
    obtain ⟨M2, e2⟩ : ∃ M, s.mustL L s.yards.length = M := ⟨_, rfl⟩
    obtain ⟨B1, e3⟩ : ∃ M, bestN (s.expl l) s.all (2 ^ s.yards.length) = M := ⟨_, rfl⟩
    obtain ⟨B2, e4⟩ : ∃ M, bestN (s.expl L) s.all (2 ^ s.yards.length) = M := ⟨_, rfl⟩
    rw [e1] at h25 hmsub hM1
    rw [e2] at h25' hmsub hM2
    rw [e3] at h27 hbest
    rw [e4] at h27' hbest
    have h42 := den42 M1 M2 (by omega) (by omega)
    rw [hmsub] at h42
    refine ⟨_, rfl, _, h25, ?_⟩
    refine ⟨_, mapO_cons rfl (mapO_cons (reify_sl rfl rfl) rfl), _, h25', ?_⟩
    refine ⟨_, rfl, _, h27, ?_⟩
    refine ⟨_, mapO_cons rfl (mapO_cons (reify_sl rfl rfl) rfl), _, h27', ?_⟩
    refine ⟨fun h => absurd h (by decide), fun _ => ?_⟩
    refine ⟨fun h => absurd h (by decide), fun _ => ?_⟩
    refine ⟨fun h => absurd h (by decide), fun _ => ?_⟩
    refine ⟨fun h => absurd h (by decide), fun _ => ?_⟩
    refine ⟨_, rfl, _, h42, ?_⟩
    refine ⟨fun h => absurd h (by decide), fun _ => ?_⟩
    have hlt : decide ((((yardsZ B2).map encI).length : Int) < (((yardsZ B1).map encI).length : Nat)) = false := by
      refine decide_eq_false ?_
      rw [encI_len, encI_len, yardsZ_len, yardsZ_len]
      unfold card at hbest
      omega
    refine ⟨fun h => absurd (hlt.symm.trans h) (by decide), fun _ => ?_⟩
    refine ⟨fun _ => ⟨_, rfl, _, den22, rfl⟩, fun h5 => ?_⟩
    have h5 : (((l.map Smp.enc).length : Int) == 0) = false := h5
    rw [smp_lenI] at h5
    have h5 : ¬ l.length = 0 := by simpa using h5
    have hr := tmod_range hw.1 (k := l.length) (by omega)
    obtain ⟨i, hi2⟩ : ∃ i : Nat, w.tmod l.length = i := ⟨(w.tmod l.length).toNat, by omega⟩
    rw [hi2] at hr
    have hil : i < l.length := by omega
    obtain ⟨x', hxi⟩ : ∃ x, l[i] = x := ⟨_, rfl⟩
    have hgx : l[i]? = some x' := by rw [List.getElem?_eq_getElem hil, hxi]
    have hrow : (l.map Smp.enc)[((i : Int)).toNat]? = some (x'.enc) := by simp [hil, hxi]
    refine ⟨w, wrap64 (by omega) (by omega), ?_⟩
    refine ⟨by rw [smp_lenI]; omega, (i : Int), by rw [smp_lenI]; exact hi2, ?_⟩
    refine ⟨by omega, _, hrow, ?_⟩
    refine ⟨fun _ => ⟨_, rfl, _, den22, rfl⟩, fun h6 => ?_⟩
    have hf : x'.found = true := by
      have h6 : (!x'.found) = false := h6
      simpa using h6
    have c1 := hcan i hil x' hgx hf hi
    have c2 := hcan' i hil x' hgx hf hs
    have c3 := hcansub i hil x' hgx
    have hC1 := yardsZ_le (s.can l (2 ^ i))
    have hC2 := yardsZ_le (s.can L (2 ^ i))
    obtain ⟨C1, e5⟩ : ∃ M, yardsZ (s.can l (2 ^ i)) = M := ⟨_, rfl⟩
    obtain ⟨C2, e6⟩ : ∃ M, yardsZ (s.can L (2 ^ i)) = M := ⟨_, rfl⟩
    rw [e5] at c1 c3 hC1
    rw [e6] at c2 c3 hC2
    have h42c := den42 C2 C1 (by omega) (by omega)
    rw [c3] at h42c
    refine ⟨w, wrap64 (by omega) (by omega), ?_⟩
    refine ⟨by rw [smp_lenI]; omega, (i : Int), by rw [smp_lenI]; exact hi2, ?_⟩
    refine ⟨_, rfl, _, c1, ?_⟩
    refine ⟨_, mapO_cons rfl (mapO_cons (reify_sl rfl rfl) (mapO_cons rfl rfl)), _, c2, ?_⟩
    refine ⟨fun _ => ?_, fun h => absurd h (by decide)⟩
    refine ⟨fun _ => ?_, fun h => absurd h (by decide)⟩
    refine ⟨_, rfl, _, h42c, ?_⟩
    refine ⟨fun _ => ?_, fun h => absurd h (by decide)⟩
    exact ⟨_, rfl, _, den22, rfl⟩

end Go.Proofs.Water
