/- Which levels there can be at the start, and their ends, in the reference; Which levels there can be a minute later, in the reference; Levels minute by minute: the code's walk and the document's; Level and Until, in the reference. No condition. -/
import Derived.Test.YtekancfhpbbieaaPackGG
import Derived.Test.YtekancfhpbbieaaPackGC
import Derived.Test.YtekancfhpbbieaaPackGB

namespace Go.Proofs.Gas
open Go.V Go.Proofs

def rowF (f : Nat → Bool) : List (List D) := (List.range 201).map fun j => [.bool (f j)]
/-- A slice of bools, one for each level. -/
def lvlD (f : Nat → Bool) : D := .list 1 (rowF f)
def memF (x : Sp) (n : Nat) : Bool := inB n x
theorem rowF_len (f : Nat → Bool) : (rowF f).length = 201 := by simp [rowF]
theorem rowF_get (f : Nat → Bool) {n : Nat} (h : n < 201) : (rowF f)[n]? = some [.bool (f n)] := by
  unfold rowF
  rw [List.getElem?_map, List.getElem?_range h]; rfl
theorem rowF_congr {f g : Nat → Bool} (h : ∀ n, n < 201 → f n = g n) : rowF f = rowF g := by
  unfold rowF
  refine List.map_congr_left fun j hj => ?_
  rw [h j (List.mem_range.1 hj)]

/-- The rows that are written, from a to b. -/
def rowW (f : Nat → Bool) (a b : Int) : List (List D) := (List.range 201).map fun j : Nat => if a ≤ (j : Int) ∧ (j : Int) ≤ b then [.bool (f j)] else [.ff]
theorem rowW_len (f : Nat → Bool) (a b : Int) : (rowW f a b).length = 201 := by simp [rowW]
theorem rowW_none (f : Nat → Bool) {a b : Int} (h : b < a) : rowW f a b = List.replicate 201 [.ff] := by
  unfold rowW
  have : ((List.range 201).map fun j : Nat => if a ≤ (j : Int) ∧ (j : Int) ≤ b then [D.bool (f j)] else [D.ff]) = (List.range 201).map fun _ => [D.ff] :=
    List.map_congr_left fun j _ => if_neg (by omega)
  rw [this, List.map_const', List.length_range]
theorem rowW_get (f : Nat → Bool) (a b : Int) {n : Nat} (h : n < 201) : (rowW f a b)[n]? = some (if a ≤ (n : Int) ∧ (n : Int) ≤ b then [.bool (f n)] else [.ff]) := by
  unfold rowW
  rw [List.getElem?_map, List.getElem?_range h]; rfl
theorem rowW_set (f : Nat → Bool) {a b b' : Int} {k : Nat} (hk : k < 201) (ha : a ≤ k) (hb : (k : Int) ≤ b + 1) (hb' : b' = max b k) : (rowW f a b).set k [.bool (f k)] = rowW f a b' := by
  subst hb'
  unfold rowW
  refine set_range (fun j hj hjk => ?_) ?_
  · by_cases h : a ≤ (j : Int) ∧ (j : Int) ≤ b
    · rw [if_pos h, if_pos (by omega)]
    · rw [if_neg h, if_neg (by omega)]
  · rw [if_pos (by omega)]
theorem rowW_norm (f g : Nat → Bool) (a b : Int) (h : ∀ n, n < 201 → g n = (decide (a ≤ (n : Int) ∧ (n : Int) ≤ b) && f n)) : (rowW f a b).map (·.map normB) = rowF g := by
  unfold rowW rowF
  rw [List.map_map]
  refine List.map_congr_left fun j hj => ?_
  have hj := List.mem_range.1 hj
  simp only [Function.comp_apply]
  by_cases hc : a ≤ (j : Int) ∧ (j : Int) ≤ b
  · rw [if_pos hc, h j hj, decide_eq_true hc]; rfl
  · rw [if_neg hc, h j hj, decide_eq_false hc]; rfl
theorem Wk_rows {f g : Nat → Bool} {a b : Int} (h : ∀ n, n < 201 → g n = (decide (a ≤ (n : Int) ∧ (n : Int) ≤ b) && f n)) : Wk (.list 1 (rowW f a b)) (lvlD g) := by
  unfold lvlD
  rw [← rowW_norm f g a b h]
  exact .rows _ _

/-- Readings that are valid. -/
structure Space.good (s : Space) (l : List Rd) : Prop where
  v : s.Valid
  len : l.length ≤ 12
  ok : ∀ r ∈ l, s.readBad r = 0
theorem Space.good.tools {s : Space} {l : List Rd} (h : s.good l) : s.toolsOK l := fun r hr => by
  have h1 := readBad_ok.1 (h.ok r hr)
  have h2 := h.v.err r.tool
  exact ⟨⟨h1.1.1, by omega⟩, by omega, by omega⟩
theorem Space.good.nil {s : Space} (h : s.Valid) : s.good [] := ⟨h, by simp, fun r hr => by cases hr⟩
theorem good_of {s : Space} {l : List Rd} (h : s.readE l = 0) : s.good l := by
  obtain ⟨h1, h2, h3⟩ := readE_zero.1 h
  exact ⟨h1, h2, readsE_zero.1 h3⟩
theorem good_den59 {s : Space} {l : List Rd} (h : s.good l) (t n : Int) (hn : 0 ≤ n ∧ n ≤ 200) : DN 59 [.agg s.enc, .list 3 (l.map Rd.enc), .int .i64 t, .int .i64 n] (.bool (inB n (left (s.seen l) t))) := by
  have := den59 s l t n (by have := h.len; omega) h.tools (by omega)
  rw [← left_seen h.ok t n hn] at this
  exact this

theorem den86 (s : Space) (l : List Rd) (h : s.good l) : DN 86 [.agg s.enc, .list 3 (l.map Rd.enc)] (lvlD (memF (both s.start (left (s.seen l) 0)))) := by
  refine mkW Try.func86 Try.call86 rfl rfl ?_
  have hst := h.v.start
  refine ⟨by decide, rfl, by decide, 201, rfl, rowW (memF (left (s.seen l) 0)) s.start.lo (s.start.lo - 1), (rowW_none _ (by omega)).symm, ?_⟩
  refine ⟨[1, 2, 5, 6], 2, [], fun σ => ∃ n : Int, (s.start.lo ≤ n ∧ n ≤ s.start.hi + 1) ∧ σ = ⟨[(1, .list 3 (l.map Rd.enc)), (2, .loc 0 0), (5, .sl 1 0 0 201), (6, .int .i64 n)], [.flat false s.enc, .rows false 0 1 (rowW (memF (left (s.seen l) 0)) s.start.lo (n - 1))], .non⟩,
    fun σ => (1000 - slotI 6 σ).toNat, rfl, ⟨rfl, rfl⟩, ⟨s.start.lo, by omega, rfl⟩, ?_⟩
  rintro σ ⟨n, hn, rfl⟩
  refine ⟨fun h1 => ?_, fun h1 => ?_⟩
  · have h1 : n ≤ s.start.hi := of_decide_eq_true h1
    refine ⟨_, rfl, _, good_den59 h 0 n (by omega), ?_⟩
    refine ⟨by omega, by omega, n.toNat, by omega, ?_⟩
    refine ⟨_, rowW_get _ _ _ (by omega), ?_, rowW (memF (left (s.seen l) 0)) s.start.lo n, ?_, ?_⟩
    · rw [if_neg (by omega)]; exact Nat.le_refl 1
    · have : splice (if s.start.lo ≤ ((n.toNat : Nat) : Int) ∧ ((n.toNat : Nat) : Int) ≤ n - 1 then [.bool (memF (left (s.seen l) 0) n.toNat)] else [D.ff]) 0 [D.bool (inB n (left (s.seen l) 0))] = [D.bool (memF (left (s.seen l) 0) n.toNat)] := by
        rw [if_neg (by omega)]
        unfold memF
        rw [Int.toNat_of_nonneg (by omega)]
        rfl
      rw [this]
      exact rowW_set _ (by omega) (by omega) (by omega) (by omega)
    refine ⟨_, wrap64 (by omega) (by omega), ?_⟩
    refine ⟨⟨rfl, rfl⟩, ⟨n + 1, by omega, ?_⟩, by show (1000 - (n + 1)).toNat < (1000 - n).toNat; omega⟩
    rw [show n + 1 - 1 = n by omega]
    rfl
  · have h1 : ¬ n ≤ s.start.hi := of_decide_eq_false h1
    obtain rfl : n = s.start.hi + 1 := by omega
    refine ⟨.list 1 (rowW (memF (left (s.seen l) 0)) s.start.lo (s.start.hi + 1 - 1)), (show reify [.flat false s.enc, .rows false 0 1 (rowW (memF (left (s.seen l) 0)) s.start.lo (s.start.hi + 1 - 1))] 8 (.sl 1 0 0 201) = _ from reify_sl rfl (by rw [rowW_len])), ?_⟩
    refine Wk_rows fun j hj => ?_
    unfold memF
    rw [mem_both]
    congr 1
    rw [Bool.eq_iff_iff, inB_iff, decide_eq_true_eq]
    omega

/-- The ends of a span. -/
def endsD (x : Sp) : D := .tup [.agg (if x = none' then Sp.enc ⟨0, 0⟩ else x.enc), .bool (decide (¬ x = none'))]

theorem den50 (x : Sp) (hx : x.lev) : DN 50 [lvlD (memF x)] (endsD x) := by
  refine mk Try.func50 Try.call50 rfl rfl ?_
  -- the ends of what lies below n
  let lo (n : Nat) : Int := if x.lo < (n : Int) ∧ ¬ x = none' then x.lo else 0
  let hi (n : Nat) : Int := if x.lo < (n : Int) ∧ ¬ x = none' then min ((n : Int) - 1) x.hi else 0
  let is (n : Nat) : Bool := decide (x.lo < (n : Int) ∧ ¬ x = none')
  have hmem : ∀ n : Nat, memF x n = true ↔ (x.lo ≤ (n : Int) ∧ (n : Int) ≤ x.hi) := fun n => inB_iff
  refine ⟨[0, 2, 4, 5, 6], 2, [], fun σ => ∃ (n : Nat) (v : D), n ≤ 201 ∧ (v = .bool (is n) ∨ (v = .ff ∧ is n = false) ∨ (v = .tt ∧ is n = true)) ∧
    σ = ⟨[(0, lvlD (memF x)), (2, .loc 0 0), (4, .loc 1 0), (5, v), (6, .int .i64 n)], [.flat false [.int .i64 0, .int .i64 0], .flat false [.int .i64 (lo n), .int .i64 (hi n)]], .non⟩, fun σ => (1000 - slotI 6 σ).toNat, rfl, ⟨rfl, rfl⟩, ⟨0, .ff, Nat.zero_le _, ?_, ?_⟩, ?_⟩
  · refine .inr (.inl ⟨rfl, ?_⟩)
    show decide (x.lo < ((0 : Nat) : Int) ∧ ¬ x = none') = false
    apply decide_eq_false
    rintro ⟨h1, h2⟩
    rcases hx with h | h
    · exact h2 h
    · omega
  · have h0 : ¬ (x.lo < ((0 : Nat) : Int) ∧ ¬ x = none') := by
      rintro ⟨h1, h2⟩
      rcases hx with h | h
      · exact h2 h
      · omega
    have e1 : lo 0 = 0 := if_neg h0
    have e2 : hi 0 = 0 := if_neg h0
    rw [e1, e2]; rfl
  rintro σ ⟨n, v, hn, hv, rfl⟩
  have hlen : ((rowF (memF x)).length : Int) = 201 := by rw [rowF_len]; rfl
  refine ⟨fun h1 => ?_, fun h1 => ?_⟩
  · have h1 : (n : Int) < 201 := by rw [← hlen]; exact of_decide_eq_true h1
    have hn' : n < 201 := by omega
    refine ⟨by omega, _, rowF_get (memF x) hn', ?_⟩
    refine ⟨fun h2 => ?_, fun h2 => ?_⟩
    · have h2 := (hmem n).1 h2
      have hne : ¬ x = none' := fun e => by rw [e] at h2; simp [none'] at h2; omega
      have hx' : 0 ≤ x.lo ∧ x.lo ≤ x.hi ∧ x.hi ≤ 200 := hx.elim (fun e => absurd e hne) id
      have hlo1 : lo (n + 1) = x.lo := if_pos ⟨by omega, hne⟩
      have hhi1 : hi (n + 1) = n := by
        show (if x.lo < ((n + 1 : Nat) : Int) ∧ ¬ x = none' then min (((n + 1 : Nat) : Int) - 1) x.hi else 0) = n
        rw [if_pos ⟨by omega, hne⟩]; omega
      have his1 : is (n + 1) = true := decide_eq_true ⟨by omega, hne⟩
      have hlo0 : is n = true → lo n = x.lo := fun h => if_pos (of_decide_eq_true h)
      have hlo0' : is n = false → (n : Int) = x.lo := fun h => by
        have := of_decide_eq_false h
        have : ¬ x.lo < (n : Int) := fun e => this ⟨e, hne⟩
        omega
      have fin : (∃ (n' : Nat) (v' : D), n' ≤ 201 ∧ (v' = .bool (is n') ∨ (v' = .ff ∧ is n' = false) ∨ (v' = .tt ∧ is n' = true)) ∧
          (⟨[(0, lvlD (memF x)), (2, .loc 0 0), (4, .loc 1 0), (5, .tt), (6, .int .i64 ((n : Int) + 1))], [.flat false [.int .i64 0, .int .i64 0], .flat false [.int .i64 x.lo, .int .i64 n]], .non⟩ : St) =
            ⟨[(0, lvlD (memF x)), (2, .loc 0 0), (4, .loc 1 0), (5, v'), (6, .int .i64 n')], [.flat false [.int .i64 0, .int .i64 0], .flat false [.int .i64 (lo n'), .int .i64 (hi n')]], .non⟩) ∧ (1000 - ((n : Int) + 1)).toNat < (1000 - (n : Int)).toNat :=
        ⟨⟨n + 1, .tt, by omega, .inr (.inr ⟨rfl, his1⟩), by rw [hlo1, hhi1]; rfl⟩, by omega⟩
      rcases hv with rfl | ⟨rfl, hv⟩ | ⟨rfl, hv⟩
      · refine ⟨fun h3 => ?_, fun h3 => ?_⟩
        · have h3 : is n = false := by simpa using h3
          rw [hlo0' h3] at fin ⊢
          refine ⟨_, wrap64 (by omega) (by omega), ?_⟩
          exact ⟨⟨rfl, rfl⟩, fin⟩
        · have h3 : is n = true := by simpa using h3
          rw [hlo0 h3]
          refine ⟨_, wrap64 (by omega) (by omega), ?_⟩
          exact ⟨⟨rfl, rfl⟩, fin⟩
      · rw [hlo0' hv] at fin ⊢
        refine ⟨_, wrap64 (by omega) (by omega), ?_⟩
        exact ⟨⟨rfl, rfl⟩, fin⟩
      · rw [hlo0 hv]
        refine ⟨_, wrap64 (by omega) (by omega), ?_⟩
        exact ⟨⟨rfl, rfl⟩, fin⟩
    · have h2 : ¬ (x.lo ≤ (n : Int) ∧ (n : Int) ≤ x.hi) := fun e => by
        have h2 : memF x n = false := h2
        rw [(hmem n).2 e] at h2; cases h2
      have hc : (x.lo < ((n + 1 : Nat) : Int) ∧ ¬ x = none') ↔ (x.lo < (n : Int) ∧ ¬ x = none') := by
        constructor
        · rintro ⟨h3, h4⟩
          refine ⟨?_, h4⟩
          rcases hx with h | h
          · exact absurd h h4
          · omega
        · rintro ⟨h3, h4⟩; exact ⟨by omega, h4⟩
      have e1 : lo (n + 1) = lo n := by
        show (if _ then _ else _) = (if _ then _ else _)
        simp only [hc]
      have e2 : hi (n + 1) = hi n := by
        show (if x.lo < ((n + 1 : Nat) : Int) ∧ ¬ x = none' then min (((n + 1 : Nat) : Int) - 1) x.hi else 0) = (if x.lo < (n : Int) ∧ ¬ x = none' then min ((n : Int) - 1) x.hi else 0)
        by_cases h3 : x.lo < (n : Int) ∧ ¬ x = none'
        · rw [if_pos h3, if_pos (hc.2 h3)]; omega
        · rw [if_neg h3, if_neg (fun e => h3 (hc.1 e))]
      have e3 : is (n + 1) = is n := decide_eq_decide.2 hc
      have hme : (1000 - ((n : Int) + 1)).toNat < (1000 - (n : Int)).toNat := by omega
      rcases hv with rfl | ⟨rfl, hv⟩ | ⟨rfl, hv⟩
      · refine ⟨_, wrap64 (by omega) (by omega), ?_⟩
        exact ⟨⟨rfl, rfl⟩, ⟨n + 1, .bool (is (n + 1)), by omega, .inl rfl, by rw [e1, e2, e3]; rfl⟩, hme⟩
      · refine ⟨_, wrap64 (by omega) (by omega), ?_⟩
        exact ⟨⟨rfl, rfl⟩, ⟨n + 1, .ff, by omega, .inr (.inl ⟨rfl, e3.trans hv⟩), by rw [e1, e2]; rfl⟩, hme⟩
      · refine ⟨_, wrap64 (by omega) (by omega), ?_⟩
        exact ⟨⟨rfl, rfl⟩, ⟨n + 1, .tt, by omega, .inr (.inr ⟨rfl, e3.trans hv⟩), by rw [e1, e2]; rfl⟩, hme⟩
  · have h1 : ¬ (n : Int) < 201 := by rw [← hlen]; exact of_decide_eq_false h1
    obtain rfl : n = 201 := by omega
    have fin : some (D.tup [.agg [.int .i64 (lo 201), .int .i64 (hi 201)], .bool (is 201)]) = some (endsD x) := by
      have g : (x = none' → lo 201 = 0 ∧ hi 201 = 0 ∧ is 201 = false) ∧ (¬ x = none' → lo 201 = x.lo ∧ hi 201 = x.hi ∧ is 201 = true) := by
        constructor
        · intro e
          have : ¬ (x.lo < ((201 : Nat) : Int) ∧ ¬ x = none') := fun h => h.2 e
          exact ⟨if_neg this, if_neg this, decide_eq_false this⟩
        · intro e
          have hx' : 0 ≤ x.lo ∧ x.lo ≤ x.hi ∧ x.hi ≤ 200 := hx.elim (fun h => absurd h e) id
          have : x.lo < ((201 : Nat) : Int) ∧ ¬ x = none' := ⟨by omega, e⟩
          refine ⟨if_pos this, (if_pos this).trans (by omega), decide_eq_true this⟩
      unfold endsD
      by_cases e : x = none'
      · obtain ⟨g1, g2, g3⟩ := g.1 e
        rw [g1, g2, g3, if_pos e, decide_eq_false (fun h => h e)]; rfl
      · obtain ⟨g1, g2, g3⟩ := g.2 e
        rw [g1, g2, g3, if_neg e, decide_eq_true e]; rfl
    rcases hv with rfl | ⟨rfl, hv⟩ | ⟨rfl, hv⟩
    · exact fin
    · rw [hv] at fin
      exact fin
    · rw [hv] at fin
      exact fin

end Go.Proofs.Gas

namespace Go.Proofs.Gas
open Go.V Go.Proofs

/-- The least level a minute later, and the greatest one that comes of levels below n. -/
def loN (s : Space) (t : Int) (x : Sp) : Int := limited (x.lo + (s.riseAt t).lo)
def hiN (s : Space) (t : Int) (x : Sp) (n : Nat) : Int := if x.lo < (n : Int) ∧ x.lo ≤ x.hi then limited (min ((n : Int) - 1) x.hi + (s.riseAt t).hi) else loN s t x - 1

theorem limited_range (n : Int) : 0 ≤ limited n ∧ limited n ≤ 200 := by unfold limited; omega

set_option maxHeartbeats 2000000 in
theorem den52 (s : Space) (l : List Rd) (h : s.good l) (x : Sp) (hx : x.lev) (t : Int) (ht : 0 ≤ t ∧ t ≤ 60) :
    DN 52 [.agg s.enc, .list 3 (l.map Rd.enc), lvlD (memF x), .int .i64 t] (lvlD (memF (both (s.later t x) (left (s.seen l) (t + 1))))) := by
  refine mkW Try.func52 Try.call52 rfl rfl ?_
  have hr := riseAt_le h.v t
  obtain ⟨r, hrr⟩ : ∃ r, s.riseAt t = r := ⟨_, rfl⟩
  have h61 := den61 s t (by have := h.v.blen; omega)
  rw [hrr] at h61 hr
  obtain ⟨F, hF⟩ : ∃ F, memF (left (s.seen l) (t + 1)) = F := ⟨_, rfl⟩
  obtain ⟨A, hA⟩ : ∃ A, loN s t x = A := ⟨_, rfl⟩
  have hAr : 0 ≤ A ∧ A ≤ 200 := by rw [← hA]; exact limited_range _
  have hB0 : hiN s t x 0 = A - 1 := by
    unfold hiN
    rw [if_neg, hA]
    rintro ⟨h1, h2⟩
    rcases hx with hx | hx
    · rw [hx] at h2; simp [none'] at h2
    · omega
  have hfinal : ∀ n : Nat, n = 201 → ∀ j, j < 201 → memF (both (s.later t x) (left (s.seen l) (t + 1))) j = (decide (A ≤ (j : Int) ∧ (j : Int) ≤ hiN s t x n) && F j) := by
    intro n hn2 j hj
    rw [← hF]
    unfold memF
    rw [mem_both]
    congr 1
    rw [Bool.eq_iff_iff, inB_iff, decide_eq_true_eq]
    rcases hx with hx | hx
    · have e1 : s.later t x = none' := by unfold Space.later; rw [if_pos hx, hx]
      have e2 : hiN s t x n = A - 1 := by
        unfold hiN
        rw [if_neg (fun h => absurd h.2 (by rw [hx]; decide)), hA]
      rw [e1, e2]
      simp only [none']; omega
    · have hne : ¬ x = none' := fun e => by rw [e] at hx; simp [none'] at hx
      have e1 : s.later t x = ⟨limited (x.lo + (s.riseAt t).lo), limited (x.hi + (s.riseAt t).hi)⟩ := if_neg hne
      have e2 : hiN s t x n = limited (x.hi + (s.riseAt t).hi) := by
        unfold hiN
        rw [if_pos ⟨by omega, hx.2.1⟩]
        have e : min ((n : Int) - 1) x.hi = x.hi := by omega
        rw [e]
      rw [e1, e2, ← hA]
      exact Iff.rfl
  refine ⟨by decide, rfl, by decide, 201, rfl, rowW F A (hiN s t x 0), (rowW_none _ (by omega)).symm, ?_⟩
  refine ⟨_, rfl, _, h61, ?_⟩
  have hmem : ∀ n : Nat, memF x n = true ↔ (x.lo ≤ (n : Int) ∧ (n : Int) ≤ x.hi) := fun n => inB_iff
  refine ⟨[1, 2, 3, 4, 9, 10, 11], 3, [], fun σ => ∃ n : Nat, n ≤ 201 ∧
    σ = ⟨[(1, .list 3 (l.map Rd.enc)), (2, lvlD (memF x)), (3, .int .i64 t), (4, .loc 0 0), (9, .sl 1 0 0 201), (10, .loc 2 0), (11, .int .i64 n)],
      [.flat false s.enc, .rows false 0 1 (rowW F A (hiN s t x n)), .flat false r.enc], .non⟩, fun σ => (1000 - slotI 11 σ).toNat, rfl, ⟨rfl, rfl⟩, ⟨0, Nat.zero_le _, rfl⟩, ?_⟩
  rintro σ ⟨n, hn, rfl⟩
  have hlen : ((rowF (memF x)).length : Int) = 201 := by rw [rowF_len]; rfl
  refine ⟨fun h1 => ?_, fun h1 => ?_⟩
  · have h1 : (n : Int) < 201 := by rw [← hlen]; exact of_decide_eq_true h1
    have hn' : n < 201 := by omega
    -- what one level more leads to
    have hup : memF x n = true → 0 ≤ x.lo ∧ x.lo ≤ (n : Int) ∧ (n : Int) ≤ x.hi ∧ x.hi ≤ 200 := fun hm => by
      have := (hmem n).1 hm
      rcases hx with hx | hx
      · rw [hx] at this; simp [none'] at this; omega
      · omega
    refine ⟨[1, 2, 3, 4, 9, 10, 11, 12], 3, [], fun σ => ∃ by' B : Int, (r.lo ≤ by' ∧ by' ≤ r.hi + 1) ∧ (by' = r.lo → B = hiN s t x n) ∧ (r.lo < by' → memF x n = true ∧ B = max (hiN s t x n) (limited ((n : Int) + by' - 1))) ∧
      σ = ⟨[(1, .list 3 (l.map Rd.enc)), (2, lvlD (memF x)), (3, .int .i64 t), (4, .loc 0 0), (9, .sl 1 0 0 201), (10, .loc 2 0), (11, .int .i64 n), (12, .int .i64 by')],
        [.flat false s.enc, .rows false 0 1 (rowW F A B), .flat false r.enc], .non⟩, fun σ => (1000 - slotI 12 σ).toNat, rfl, ⟨rfl, rfl⟩, ⟨r.lo, hiN s t x n, by omega, fun _ => rfl, fun h => absurd h (Int.lt_irrefl _), rfl⟩, ?_⟩
    rintro σ ⟨b, B, hb, hB1, hB2, rfl⟩
    have fin : B = hiN s t x (n + 1) → ∃ v : Int, IntKind.i64.wrap ((n : Int) + 1) = v ∧ v = (n : Int) + 1 ∧ B = hiN s t x (n + 1) := fun e => ⟨(n : Int) + 1, wrap64 (by omega) (by omega), rfl, e⟩
    refine ⟨fun h2 => ?_, fun h2 => ?_⟩
    · have h2 : b ≤ r.hi := of_decide_eq_true h2
      refine ⟨by omega, _, rowF_get (memF x) hn', ?_⟩
      refine ⟨fun h3 => ?_, fun h3 => ?_⟩
      · have h3 : memF x n = true := h3
        obtain ⟨u1, u2, u3, u4⟩ := hup h3
        obtain ⟨k, hk⟩ : ∃ k : Nat, limited ((n : Int) + b) = k := ⟨(limited ((n : Int) + b)).toNat, by have := limited_range ((n : Int) + b); omega⟩
        have hkr := limited_range ((n : Int) + b)
        rw [hk] at hkr
        have hBB : A ≤ k ∧ (k : Int) ≤ B + 1 ∧ max B k = max (hiN s t x n) (limited ((n : Int) + (b + 1) - 1)) := by
          have e : (n : Int) + (b + 1) - 1 = n + b := by omega
          rw [e, hk]
          have hAk : A ≤ k := by
            rw [← hA, ← hk]; unfold loN limited; rw [hrr]; omega
          by_cases hbl : b = r.lo
          · rw [hB1 hbl]
            refine ⟨hAk, ?_, rfl⟩
            unfold hiN
            by_cases hxn : x.lo < (n : Int)
            · rw [if_pos ⟨hxn, by omega⟩, ← hk, hrr]; unfold limited; omega
            · rw [if_neg (fun h => hxn h.1), hA, ← hA, ← hk]; unfold loN limited; rw [hrr]; omega
          · obtain ⟨_, hB⟩ := hB2 (by omega)
            rw [hB]
            refine ⟨hAk, ?_, ?_⟩
            · rw [← hk]; unfold limited; omega
            · rw [← hk]; unfold limited; omega
        refine Or.inl ⟨by kernel_rfl, ?_⟩
        refine ⟨(n : Int) + b, wrap64 (by omega) (by omega), ?_⟩
        refine ⟨_, rfl, _, den62 _, ?_⟩
        refine ⟨t + 1, wrap64 (by omega) (by omega), ?_⟩
        refine ⟨(n : Int) + b, wrap64 (by omega) (by omega), ?_⟩
        refine ⟨_, rfl, _, den62 _, ?_⟩
        rw [hk]
        refine ⟨_, rfl, _, good_den59 h (t + 1) k (by omega), ?_⟩
        refine ⟨by omega, by omega, k, by omega, ?_⟩
        refine ⟨_, rowW_get F A B (by omega), ?_, rowW F A (max B k), ?_, ?_⟩
        · split <;> exact Nat.le_refl 1
        · have : splice (if A ≤ ((k : Nat) : Int) ∧ ((k : Nat) : Int) ≤ B then [.bool (F k)] else [D.ff]) 0 [D.bool (inB k (left (s.seen l) (t + 1)))] = [D.bool (F k)] := by
            rw [← hF]
            split <;> rfl
          rw [this]
          exact rowW_set F (by omega) hBB.1 hBB.2.1 rfl
        refine ⟨b + 1, wrap64 (by omega) (by omega), ?_⟩
        exact ⟨⟨rfl, rfl⟩, ⟨b + 1, max B k, by omega, fun h => (by omega), fun _ => ⟨h3, hBB.2.2⟩, rfl⟩, by show (1000 - (b + 1)).toNat < (1000 - b).toNat; omega⟩
      · have h3 : memF x n = false := h3
        have hbl : b = r.lo := Classical.byContradiction fun e => by
          have := (hB2 (by omega)).1
          rw [h3] at this; cases this
        obtain ⟨v, hv, hv1, hv2⟩ := fin (by
          rw [hB1 hbl]
          unfold hiN
          have hno : ¬ (x.lo ≤ (n : Int) ∧ (n : Int) ≤ x.hi) := fun e => by
            rw [(hmem n).2 e] at h3; cases h3
          by_cases hxn : x.lo < (n : Int) ∧ x.lo ≤ x.hi
          · have e : min (((n + 1 : Nat) : Int) - 1) x.hi = min ((n : Int) - 1) x.hi := by omega
            rw [if_pos hxn, if_pos ⟨by omega, hxn.2⟩, e]
          · rw [if_neg hxn, if_neg (by omega)])
        subst hv1
        refine ⟨_, hv, ?_⟩
        exact ⟨⟨rfl, rfl⟩, ⟨n + 1, by omega, by rw [hv2]; rfl⟩, by show (1000 - ((n : Int) + 1)).toNat < (1000 - (n : Int)).toNat; omega⟩
    · have h2 : ¬ b ≤ r.hi := of_decide_eq_false h2
      have hlt : r.lo < b := by omega
      have h3 := (hB2 hlt).1
      have hB := (hB2 hlt).2
      have hu := hup h3
      obtain ⟨v, hv, hv1, hv2⟩ := fin (by
        rw [hB, show (n : Int) + b - 1 = n + r.hi by omega]
        unfold hiN
        rw [if_pos (show x.lo < ((n + 1 : Nat) : Int) ∧ x.lo ≤ x.hi from ⟨by omega, by omega⟩), hrr]
        have e : min (((n + 1 : Nat) : Int) - 1) x.hi = n := by omega
        rw [e]
        by_cases hxn : x.lo < (n : Int) ∧ x.lo ≤ x.hi
        · rw [if_pos hxn]; unfold limited; omega
        · rw [if_neg hxn]; unfold loN limited; rw [hrr]; omega)
      subst hv1
      refine ⟨_, hv, ?_⟩
      exact ⟨⟨rfl, rfl⟩, ⟨n + 1, by omega, by rw [hv2]; rfl⟩, by show (1000 - ((n : Int) + 1)).toNat < (1000 - (n : Int)).toNat; omega⟩
  · have h1 : ¬ (n : Int) < 201 := by rw [← hlen]; exact of_decide_eq_false h1
    have hn2 : n = 201 := by omega
    refine ⟨.list 1 (rowW F A (hiN s t x n)), (show reify [.flat false s.enc, .rows false 0 1 (rowW F A (hiN s t x n)), .flat false r.enc] 8 (.sl 1 0 0 201) = _ from reify_sl rfl (by rw [rowW_len])), ?_⟩
    refine Wk_rows fun j hj => ?_
    exact hfinal n hn2 j hj

end Go.Proofs.Gas

namespace Go.Proofs.Gas
open Go.V Go.Proofs

/-- The levels at a minute, readings up to it being known. -/
def Space.lv (s : Space) (m : Seen) : Nat → Sp
  | 0 => both s.start (left m 0)
  | t + 1 => both (s.later t (s.lv m t)) (left m ((t : Int) + 1))
def Space.gF (s : Space) (m : Seen) (k t : Int) (l : Sp) : Nat → Sp
  | 0 => knownAt m k t l
  | i + 1 => knownAt m k (t + i + 1) (s.later (t + i) (s.gF m k t l i))

theorem gF_succ (s : Space) (m : Seen) (k t : Int) (l : Sp) : ∀ i : Nat, s.gF m k (t + 1) (s.later t (knownAt m k t l)) i = s.gF m k t l (i + 1)
  | 0 => by simp [Space.gF]
  | i + 1 => by
    have e1 : t + 1 + (i : Int) = t + ((i + 1 : Nat) : Int) := by omega
    rw [Space.gF, gF_succ s m k t l i, e1]
    rfl

theorem follow_get (s : Space) (m : Seen) (k : Int) : ∀ (f : Nat) (t : Int) (l : Sp) (i : Nat), i < f → (s.follow m k f t l)[i]? = some (t + i, s.gF m k t l i)
  | 0, _, _, _, h => absurd h (Nat.not_lt_zero _)
  | f + 1, t, l, 0, _ => by simp [Space.follow, Space.gF]
  | f + 1, t, l, i + 1, h => by
    have := follow_get s m k f (t + 1) (s.later t (knownAt m k t l)) i (by omega)
    rw [Space.follow, List.getElem?_cons_succ, this, gF_succ]
    congr 2
    omega

theorem gF_lv (s : Space) (m : Seen) (k : Int) : ∀ i : Nat, (i : Int) ≤ k → s.gF m k 0 s.start i = s.lv m i
  | 0, h => by rw [Space.gF, knownAt, if_pos (by omega)]; rfl
  | i + 1, h => by
    rw [Space.gF, gF_lv s m k i (by omega), knownAt, if_pos (by omega), Space.lv]
    simp only [Int.zero_add]

theorem at_lv (s : Space) (m : Seen) (n : Int) (hn : 0 ≤ n ∧ n ≤ 60) : s.at m n = s.lv m n.toNat := by
  unfold Space.at
  rw [follow_get s m n 61 0 s.start n.toNat (by omega)]
  exact gF_lv s m n n.toNat (by omega)

theorem start_lev {s : Space} (hv : s.Valid) : s.start.lev := .inr hv.start
theorem lv_lev {s : Space} (hv : s.Valid) (m : Seen) : ∀ t, (s.lv m t).lev
  | 0 => both_lev (start_lev hv)
  | t + 1 => both_lev (later_lev hv (lv_lev hv m t) t)
theorem at_lev {s : Space} (hv : s.Valid) (m : Seen) (n : Int) (hn : 0 ≤ n ∧ n ≤ 60) : (s.at m n).lev := by rw [at_lv s m n hn]; exact lv_lev hv m _
theorem lv_in (s : Space) (m : Seen) (t : Nat) (n : Int) (h : inB n (s.lv m t) = true) : inB n (left m t) = true := by
  cases t with
  | zero => rw [Space.lv, mem_both, Bool.and_eq_true] at h; exact h.2
  | succ t => rw [Space.lv, mem_both, Bool.and_eq_true] at h; exact h.2

theorem both_full {x : Sp} (hx : x.lev) : both x ⟨0, 200⟩ = x := by
  refine canon_ext (both_canon _ _) hx.canon fun n => ?_
  rw [mem_both]
  cases h : inB n x with
  | false => rfl
  | true =>
    have h1 := inB_iff.1 h
    rw [Bool.true_and]
    rcases hx with hx | hx
    · rw [hx] at h; rw [inB_none] at h; cases h
    · exact inB_iff.2 ⟨by simp only; omega, by simp only; omega⟩
theorem both_lv {s : Space} (hv : s.Valid) (m : Seen) (t : Nat) : both (s.lv m t) (left m t) = s.lv m t := by
  refine canon_ext (both_canon _ _) (lv_lev hv m t).canon fun n => ?_
  rw [mem_both]
  cases h : inB n (s.lv m t) with
  | false => rfl
  | true => rw [lv_in s m t n h]; rfl

/-- The levels from a minute on, nothing more being known. -/
def Space.on (s : Space) (t : Int) (x : Sp) : Nat → Sp
  | 0 => x
  | i + 1 => s.later (t + i) (s.on t x i)
theorem gF_on {s : Space} (m : Seen) (t : Int) {x : Sp} (hx : both x (left m t) = x) : ∀ i : Nat, s.gF m t t x i = s.on t x i
  | 0 => by rw [Space.gF, knownAt, if_pos (Int.le_refl _), hx]; rfl
  | i + 1 => by rw [Space.gF, gF_on m t hx i, knownAt, if_neg (by omega)]; rfl
theorem on_lev {s : Space} (hv : s.Valid) (t : Int) {x : Sp} (hx : x.lev) : ∀ i, (s.on t x i).lev
  | 0 => hx
  | i + 1 => later_lev hv (on_lev hv t hx i) _
theorem later_ne {s : Space} (hv : s.Valid) {x : Sp} (hx : x.lev) (h : ¬ x = none') (t : Int) : ¬ s.later t x = none' := by
  rcases hx with hx | hx
  · exact absurd hx h
  · have := riseAt_le hv t
    unfold Space.later
    rw [if_neg h]
    intro e
    have h1 := congrArg Sp.lo e
    have h2 := congrArg Sp.hi e
    simp only [none', limited] at h1 h2
    omega
theorem on_ne {s : Space} (hv : s.Valid) (t : Int) {x : Sp} (hx : x.lev) (h : ¬ x = none') : ∀ i, ¬ s.on t x i = none'
  | 0 => h
  | i + 1 => later_ne hv (on_lev hv t hx i) (on_ne hv t hx h i) _

/-- The error of an opened space. -/
theorem openE_err (s : Space) (l : List Rd) (minute : Int) : (s.openE l minute).2 = if s.readE l ≠ 0 then s.readE l else if outB 0 60 minute = true then 7 else 0 := by
  unfold Space.openE Space.readE
  rw [reads_err]
  cases h1 : s.err0 != 0 with
  | true =>
    have h1 : s.err0 ≠ 0 := by simpa using h1
    simp only [h1, ne_eq, not_false_iff, if_true]
  | false =>
    cases h2 : decide ((l.length : Int) > 12) with
    | true => simp
    | false =>
      cases h3 : s.readsE l != 0 with
      | true =>
        have h3 : s.readsE l ≠ 0 := by simpa using h3
        simp only [h3, ne_eq, not_false_iff, if_true]
      | false =>
        have h3 : s.readsE l = 0 := by simpa using h3
        simp only [h3, ne_eq, not_true, if_false, List.any_cons, List.any_nil, Bool.or_false]
        cases outB 0 60 minute <;> simp

/-- What the levels at a minute are, if there is no error before. -/
theorem levelE_eq {s : Space} {l : List Rd} {minute : Int} (h : s.readE l = 0) (hm : 0 ≤ minute ∧ minute ≤ 60) : s.levelE l minute = if s.lv (s.seen l) minute.toNat = none' then (⟨0, 0⟩, 9) else (s.lv (s.seen l) minute.toNat, 0) := by
  have he : (s.openE l minute).2 = 0 := by
    rw [openE_err, if_neg (by simp [h]), if_neg (by rw [outB_false.2 hm]; simp)]
  unfold Space.levelE
  rw [he, ← at_lv s (s.seen l) minute hm]
  rfl
theorem levelE_read {s : Space} {l : List Rd} {minute : Int} (h : s.readE l ≠ 0) : s.levelE l minute = (⟨0, 0⟩, s.readE l) := by
  have he : (s.openE l minute).2 = s.readE l := by rw [openE_err, if_pos h]
  have : (s.readE l != 0) = true := by simpa using h
  unfold Space.levelE
  rw [he]
  simp only [this]
theorem levelE_minute {s : Space} {l : List Rd} {minute : Int} (h : s.readE l = 0) (hm : ¬ (0 ≤ minute ∧ minute ≤ 60)) : s.levelE l minute = (⟨0, 0⟩, 7) := by
  have he : (s.openE l minute).2 = 7 := by rw [openE_err, if_neg (by simp [h]), if_pos (outB_true.2 hm)]
  unfold Space.levelE
  rw [he]
  rfl

end Go.Proofs.Gas

namespace Go.Proofs.Gas
open Go.V Go.Proofs

theorem ends_pos {x : Sp} (hx : x.lev) (h : ¬ x = none') : DN 50 [lvlD (memF x)] (.tup [.agg x.enc, .bool true]) := by
  have := den50 x hx
  rw [endsD, if_neg h, decide_eq_true h] at this
  exact this
theorem ends_neg {x : Sp} (hx : x.lev) (h : x = none') : DN 50 [lvlD (memF x)] (.tup [.agg (Sp.enc ⟨0, 0⟩), .bool false]) := by
  have := den50 x hx
  rw [endsD, if_pos h, decide_eq_false (fun e => e h)] at this
  exact this

theorem den78 (s : Space) (l : List Rd) (h : s.good l) (k : Nat) (hk : k ≤ 60) : DN 78 [.agg s.enc, .list 3 (l.map Rd.enc), .int .i64 k] (lvlD (memF (s.lv (s.seen l) k))) := by
  refine mk Try.func78 Try.call78 rfl rfl ?_
  refine ⟨_, rfl, _, den86 s l h, ?_⟩
  refine ⟨[1, 2, 3, 7, 8], 1, [], fun σ => ∃ t : Nat, t ≤ k ∧ σ = ⟨[(1, .list 3 (l.map Rd.enc)), (2, .int .i64 k), (3, .loc 0 0), (7, lvlD (memF (s.lv (s.seen l) t))), (8, .int .i64 t)], [.flat false s.enc], .non⟩,
    fun σ => (1000 - slotI 8 σ).toNat, rfl, ⟨rfl, rfl⟩, ⟨0, Nat.zero_le _, rfl⟩, ?_⟩
  rintro σ ⟨t, ht, rfl⟩
  refine ⟨fun h1 => ?_, fun h1 => ?_⟩
  · have h1 : (t : Int) < k := of_decide_eq_true h1
    refine ⟨_, rfl, _, den52 s l h (s.lv (s.seen l) t) (lv_lev h.v _ t) t (by omega), ?_⟩
    refine ⟨_, wrap64 (by omega) (by omega), ?_⟩
    exact ⟨⟨rfl, rfl⟩, ⟨t + 1, by omega, rfl⟩, by show (1000 - ((t : Int) + 1)).toNat < (1000 - (t : Int)).toNat; omega⟩
  · have h1 : ¬ (t : Int) < k := of_decide_eq_false h1
    obtain rfl : t = k := by omega
    rfl

def askD (v : Sp × Int) : D := if v.2 = 0 then .tup [lvlD (memF v.1), .int .i64 0] else .tup [.list 0 [], .int .i64 v.2]

theorem den49 (s : Space) (l : List Rd) (minute : Int) : DN 49 [.agg s.enc, .list 3 (l.map Rd.enc), .int .i64 minute] (askD (s.levelE l minute)) := by
  refine mk Try.func49 Try.call49 rfl rfl ?_
  refine ⟨_, rfl, _, den36 s l, ?_⟩
  by_cases h0 : s.readE l = 0
  · have hg := good_of h0
    rw [h0]
    refine ⟨fun _ => ?_, fun h => nomatch h⟩
    refine ⟨_, rfl, _, den46 minute 0 60, ?_⟩
    refine ⟨fun h1 => ?_, fun h1 => ?_⟩
    · have h1 : (!(inR minute 0 60)) = true := h1
      rw [not_inR, outB_true] at h1
      rw [levelE_minute h0 h1]
      exact ⟨fun _ => rfl, fun h => nomatch h⟩
    · have h1 : (!(inR minute 0 60)) = false := h1
      rw [not_inR, outB_false] at h1
      rw [levelE_eq h0 h1]
      refine ⟨(fun h => nomatch h), fun _ => ?_⟩
      obtain ⟨k, rfl⟩ : ∃ k : Nat, minute = k := ⟨minute.toNat, by omega⟩
      rw [Int.toNat_natCast]
      refine ⟨_, rfl, _, den78 s l hg k (by omega), ?_⟩
      by_cases hn : s.lv (s.seen l) k = none'
      · rw [if_pos hn]
        refine ⟨_, rfl, _, ends_neg (lv_lev hg.v _ k) hn, ?_⟩
        exact ⟨fun _ => rfl, fun h => nomatch h⟩
      · rw [if_neg hn]
        refine ⟨_, rfl, _, ends_pos (lv_lev hg.v _ k) hn, ?_⟩
        exact ⟨(fun h => nomatch h), fun _ => rfl⟩
  · rw [levelE_read h0]
    have hb : (s.readE l == 0) = false := by simpa using h0
    have hb' : (s.readE l != 0) = true := by simpa using h0
    refine ⟨fun h1 => ?_, fun _ => ?_⟩
    · rw [hb] at h1; cases h1
    · refine ⟨fun _ => ?_, fun h1 => ?_⟩
      · show some (D.tup [.list 0 [], .int .i64 (s.readE l)]) = some (askD (⟨0, 0⟩, s.readE l))
        rw [askD, if_neg h0]
      · rw [hb'] at h1; cases h1

/-- What a level is that there is. -/
theorem levelE_zero {s : Space} {l : List Rd} {minute : Int} (h : (s.levelE l minute).2 = 0) : s.readE l = 0 ∧ (0 ≤ minute ∧ minute ≤ 60) ∧ ¬ s.lv (s.seen l) minute.toNat = none' ∧ s.levelE l minute = (s.lv (s.seen l) minute.toNat, 0) := by
  by_cases h0 : s.readE l = 0
  · by_cases h1 : 0 ≤ minute ∧ minute ≤ 60
    · rw [levelE_eq h0 h1] at h ⊢
      by_cases hn : s.lv (s.seen l) minute.toNat = none'
      · rw [if_pos hn] at h; cases h
      · rw [if_neg hn]; exact ⟨h0, h1, hn, rfl⟩
    · rw [levelE_minute h0 h1] at h; cases h
  · rw [levelE_read h0] at h; exact absurd h h0
theorem levelE_lo {s : Space} {l : List Rd} {minute : Int} (h : (s.levelE l minute).2 ≠ 0) : (s.levelE l minute).1 = ⟨0, 0⟩ := by
  by_cases h0 : s.readE l = 0
  · by_cases h1 : 0 ≤ minute ∧ minute ≤ 60
    · rw [levelE_eq h0 h1] at h ⊢
      by_cases hn : s.lv (s.seen l) minute.toNat = none'
      · rw [if_pos hn]
      · rw [if_neg hn] at h; exact absurd rfl h
    · rw [levelE_minute h0 h1]
  · rw [levelE_read h0]

theorem den18 (s : Space) (l : List Rd) (minute : Int) : DN 18 [.agg s.enc, .list 3 (l.map Rd.enc), .int .i64 minute] (levD (s.levelE l minute)) := by
  refine mk Try.func18 Try.call18 rfl rfl ?_
  have h49 := den49 s l minute
  obtain ⟨v, hv⟩ : ∃ v, s.levelE l minute = v := ⟨_, rfl⟩
  by_cases h0 : v.2 = 0
  · have hz := levelE_zero (s := s) (l := l) (minute := minute) (by rw [hv]; exact h0)
    have hlev := lv_lev (readE_zero.1 hz.1).1 (s.seen l) minute.toNat
    have hv1 : v.1 = s.lv (s.seen l) minute.toNat := by rw [← hv, hz.2.2.2]
    rw [hv, askD, if_pos h0] at h49
    rw [hv]
    refine ⟨_, rfl, _, h49, ?_⟩
    refine ⟨(fun h => nomatch h), fun _ => ?_⟩
    have hn : ¬ v.1 = none' := by rw [hv1]; exact hz.2.2.1
    refine ⟨_, rfl, _, ends_pos (by rw [hv1]; exact hlev) hn, ?_⟩
    have : v = (v.1, 0) := by cases v; simp only at h0; rw [h0]
    rw [this]
    rfl
  · have hlo := levelE_lo (s := s) (l := l) (minute := minute) (by rw [hv]; exact h0)
    rw [hv] at hlo
    rw [hv, askD, if_neg h0] at h49
    rw [hv]
    refine ⟨_, rfl, _, h49, ?_⟩
    refine ⟨fun _ => ?_, fun h => absurd (by simpa using h) h0⟩
    have : v = (⟨0, 0⟩, v.2) := by cases v; simp only at hlo; rw [hlo]
    rw [this]
    rfl

theorem den20 (s : Space) (l : List Rd) (minute : Int) : DN 20 [.agg s.enc, .list 3 (l.map Rd.enc), .int .i64 minute] (intsD (s.untilE l minute)) := by
  refine mk Try.func20 Try.call20 rfl rfl ?_
  have h49 := den49 s l minute
  obtain ⟨v, hv⟩ : ∃ v, s.levelE l minute = v := ⟨_, rfl⟩
  by_cases h0 : v.2 = 0
  · have hz := levelE_zero (s := s) (l := l) (minute := minute) (by rw [hv]; exact h0)
    obtain ⟨z1, z2, z3, z4⟩ := hz
    have hval := (readE_zero.1 z1).1
    have hlev := lv_lev hval (s.seen l) minute.toNat
    have hv1 : v.1 = s.lv (s.seen l) minute.toNat := by rw [← hv, z4]
    rw [hv, askD, if_pos h0] at h49
    rw [untilE_ok hv h0]
    obtain ⟨xs, hxs⟩ : ∃ xs, s.follow (s.seen l) minute (61 - minute).toNat minute v.1 = xs := ⟨_, rfl⟩
    rw [hxs]
    obtain ⟨x, hx⟩ : ∃ x, v.1 = x := ⟨_, rfl⟩
    have hxl : x.lev := by rw [← hx, hv1]; exact hlev
    have hxn : ¬ x = none' := by rw [← hx, hv1]; exact z3
    have hbo : both x (left (s.seen l) minute) = x := by
      have := both_lv hval (s.seen l) minute.toNat
      rw [Int.toNat_of_nonneg z2.1] at this
      rw [← hx, hv1]; exact this
    have hget : ∀ i : Nat, minute + i ≤ 60 → xs[i]? = some (minute + i, s.on minute x i) := fun i hi => by
      rw [← hxs, hx, follow_get s (s.seen l) minute _ minute x i (by omega), gF_on (s.seen l) minute hbo]
    have hlen : xs.length = (61 - minute).toNat := by rw [← hxs, follow_len]
    rw [hx] at h49
    refine ⟨_, rfl, _, h49, ?_⟩
    refine ⟨(fun h => nomatch h), fun _ => ?_⟩
    refine ⟨[3, 8, 10, 11], 1, [], fun σ => ∃ (i : Nat) (t last : Int), t = minute + i ∧ t ≤ 61 ∧ untilL s.limit xs (-1) = untilL s.limit (xs.drop i) last ∧
      σ = ⟨[(3, .loc 0 0), (8, lvlD (memF (s.on minute x i))), (10, .int .i64 last), (11, .int .i64 t)], [.flat false s.enc], .non⟩, fun σ => (1000 - slotI 11 σ).toNat, rfl, ⟨rfl, rfl⟩, ⟨0, minute, -1, by omega, by omega, rfl, rfl⟩, ?_⟩
    rintro σ ⟨i, t, last, ht, ht2, hu, rfl⟩
    refine ⟨fun h1 => ?_, fun h1 => ?_⟩
    · have h1 : t ≤ 60 := of_decide_eq_true h1
      have hol := on_lev hval minute hxl i
      have hon := on_ne hval minute hxl hxn i
      have hg := hget i (by omega)
      have hdrop : xs.drop i = (minute + i, s.on minute x i) :: xs.drop (i + 1) := by
        have hi : i < xs.length := (List.getElem?_eq_some_iff.1 hg).1
        rw [List.drop_eq_getElem_cons hi, (List.getElem?_eq_some_iff.1 hg).2]
      rw [hdrop, untilL] at hu
      have h52 : DN 52 [.agg s.enc, .list 0 [], lvlD (memF (s.on minute x i)), .int .i64 t] (lvlD (memF (s.on minute x (i + 1)))) := by
        have := den52 s [] (Space.good.nil hval) (s.on minute x i) hol t (by omega)
        have e : both (s.later t (s.on minute x i)) (left (s.seen []) (t + 1)) = s.on minute x (i + 1) := by
          show both _ ⟨0, 200⟩ = _
          rw [both_full (later_lev hval hol t), ht]; rfl
        rw [e] at this
        exact this.args (.tcons (.refl _) (.tcons (.nil _ _) (.tcons (.refl _) (.tcons (.refl _) .tnil))))
      refine ⟨_, rfl, _, ends_pos hol hon, ?_⟩
      refine ⟨fun h2 => ?_, fun h2 => ?_⟩
      · have h2 : decide ((s.on minute x i).hi > s.limit) = true := h2
        rw [h2] at hu
        show some (D.tup [.int .i64 last, .int .i64 0]) = some _
        rw [hu]; rfl
      · have h2 : decide ((s.on minute x i).hi > s.limit) = false := h2
        rw [h2] at hu
        refine ⟨_, rfl, _, h52, ?_⟩
        refine ⟨_, wrap64 (by omega) (by omega), ?_⟩
        refine ⟨⟨rfl, rfl⟩, ⟨i + 1, t + 1, t, by omega, by omega, by rw [hu, ht], rfl⟩, by show (1000 - (t + 1)).toNat < (1000 - t).toNat; omega⟩
    · have h1 : ¬ t ≤ 60 := of_decide_eq_false h1
      rw [List.drop_of_length_le (by omega)] at hu
      show some (D.tup [.int .i64 last, .int .i64 0]) = some _
      rw [hu]; rfl
  · rw [untilE_bad hv h0]
    rw [hv, askD, if_neg h0] at h49
    refine ⟨_, rfl, _, h49, ?_⟩
    exact ⟨fun _ => rfl, fun h => absurd (by simpa using h) h0⟩

end Go.Proofs.Gas
