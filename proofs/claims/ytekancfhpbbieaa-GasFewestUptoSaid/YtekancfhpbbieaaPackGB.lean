/- Which strings are names, in the program; Whether a tool's name is fresh, in the program; Whether a space is valid, in the program; What a valid space is; A space with readings, in the program; A space with readings, and the levels at a minute, in the program; Until when the level is at most the limit, in the program. No condition. -/
import Derived.Laws.RangeAny
import Derived.Laws.Strings
import Derived.Test.YtekancfhpbbieaaPackGA

namespace Go.Proofs.Gas
open Go.V Go.Proofs

def letterB (c : Int) : Bool := decide (c ≥ 97) && decide (c ≤ 122)
def digitB (c : Int) : Bool := decide (c ≥ 48) && decide (c ≤ 57)
def nameC (i : Nat) (c : Int) : Bool := letterB c || (digitB c && !(i == 0))
def nameFrom (s : ByteArray) : Nat → Nat → Bool
  | 0, _ => true
  | f + 1, i => match s[i]? with | some c => nameC i c.toNat && nameFrom s f (i + 1) | none => true
def nameB (s : ByteArray) : Bool := nameFrom s s.size 0 && (decide (1 ≤ s.size) && decide (s.size ≤ 16))

/-- What the rune says of the byte. -/
theorem rune_byte (s : ByteArray) (pos c wd : Nat) (h : pos < s.size) (hd : Utf8.decode s pos = (c, wd)) : ∃ b : UInt8, s[pos]? = some b ∧ ((c = b.toNat ∧ wd = 1) ∨ (128 ≤ c ∧ 128 ≤ b.toNat)) := by
  refine ⟨s[pos]'h, by simp [h], ?_⟩
  by_cases ha : (s[pos]'h).toNat < 128
  · rw [decode_ascii s pos h ha] at hd
    cases hd
    exact .inl ⟨rfl, rfl⟩
  · have := decode_high s pos h (by omega)
    rw [hd] at this
    exact .inr ⟨this.1, by omega⟩

theorem nameC_high (i : Nat) (c : Int) (h : 128 ≤ c) : nameC i c = false := by
  have h1 : ¬ c ≤ 122 := by omega
  have h2 : ¬ c ≤ 57 := by omega
  simp [nameC, letterB, digitB, h1, h2]

theorem str_empty (s : ByteArray) : (s.toList == (⟨#[]⟩ : ByteArray).toList) = decide (s.size = 0) := by
  have h1 : (⟨#[]⟩ : ByteArray).toList = [] := by rw [ByteArray.toList_eq]
  have h2 : s.toList = s.data.toList := ByteArray.toList_eq s
  rw [h1, h2]
  obtain ⟨⟨l⟩⟩ := s
  cases l with
  | nil => rfl
  | cons a l => simp [ByteArray.size]

theorem den70 (s : ByteArray) : DN 70 [.str s] (.bool (nameB s)) := by
  refine mk Try.func70 Try.call70 rfl rfl ?_
  refine ⟨[0, 8], 1, [], fun σ => ∃ (pos f : Nat), pos ≤ s.size ∧ s.size = pos + f ∧ nameFrom s s.size 0 = nameFrom s f pos ∧ σ = ⟨[(0, .str s), (8, .sit 0)], [.siter false s pos], .non⟩,
    fun σ => s.size - (match σ.boxes with | [.siter _ _ p] => p | _ => 0), rfl, ⟨rfl, rfl⟩, ⟨0, s.size, Nat.zero_le _, (Nat.zero_add _).symm, rfl, rfl⟩, ?_⟩
  rintro σ ⟨pos, f, hp, hf, hn, rfl⟩
  refine ⟨fun h => ?_, fun h => ?_⟩
  · obtain ⟨c, wd, hd⟩ : ∃ c wd, Utf8.decode s pos = (c, wd) := ⟨_, _, rfl⟩
    obtain ⟨b, hb, hcb⟩ := rune_byte s pos c wd h hd
    refine ⟨c, wd, hd, ?_⟩
    obtain ⟨g, rfl⟩ : ∃ g, f = g + 1 := ⟨f - 1, by omega⟩
    have hn' : nameFrom s s.size 0 = (nameC pos b.toNat && nameFrom s g (pos + 1)) := by rw [hn, nameFrom, hb]
    have bad : nameC pos c = false → nameB s = false := fun hc => by
      have : nameC pos b.toNat = false := by
        rcases hcb with ⟨h1, _⟩ | ⟨_, h1⟩
        · rw [← h1]; exact hc
        · exact nameC_high _ _ (by omega)
      unfold nameB
      rw [hn', this]; rfl
    have good : nameC pos c = true → (nameFrom s s.size 0 = nameFrom s g (pos + 1)) ∧ wd = 1 := fun hc => by
      rcases hcb with ⟨h1, h2⟩ | ⟨h1, _⟩
      · rw [hn', ← h1, hc]; exact ⟨rfl, h2⟩
      · rw [nameC_high _ _ (by omega)] at hc; cases hc
    have go : (nameFrom s s.size 0 = nameFrom s g (pos + 1)) ∧ wd = 1 → (∃ (pos' f : Nat), pos' ≤ s.size ∧ s.size = pos' + f ∧ nameFrom s s.size 0 = nameFrom s f pos' ∧ (⟨[(0, .str s), (8, .sit 0)], [.siter false s (pos + wd)], .non⟩ : St) = ⟨[(0, .str s), (8, .sit 0)], [.siter false s pos'], .non⟩) ∧ s.size - (pos + wd) < s.size - pos := by
      rintro ⟨h1, rfl⟩
      exact ⟨⟨pos + 1, g, by omega, by omega, h1, rfl⟩, by omega⟩
    have hres : nameB s = false → some (D.bool false) = some (D.bool (nameB s)) := fun h => by rw [h]
    have e0 : (((pos : Int)) == 0) = (pos == 0) := by
      cases pos <;> simp <;> omega
    have neg : ∀ {x : Bool}, (!x) = true → x = false := fun {x} h => by cases x <;> trivial
    have neg' : ∀ {x : Bool}, (!x) = false → x = true := fun {x} h => by cases x <;> trivial
    have cases' : ∀ x1 x2 x3 x4 x5 : Bool, decide ((c : Int) ≥ 97) = x1 → decide ((c : Int) ≤ 122) = x2 → decide ((c : Int) ≥ 48) = x3 → decide ((c : Int) ≤ 57) = x4 → (((pos : Int)) == 0) = x5 → nameC pos c = ((x1 && x2) || ((x3 && x4) && !x5)) := by
      rintro _ _ _ _ _ rfl rfl rfl rfl rfl
      rw [e0]
      rfl
    refine ⟨fun h1 => ?_, fun h1 => ?_⟩
    · refine ⟨fun h2 => ?_, fun h2 => ?_⟩
      · refine ⟨fun h3 => ?_, fun h3 => ?_⟩
        · refine ⟨fun h4 => ?_, fun h4 => ?_⟩
          · exact hres (bad (by rw [cases' _ _ _ _ _ h1 (neg h3) h2 (neg h4) rfl]; rfl))
          · refine ⟨fun h5 => ?_, fun h5 => ?_⟩
            · exact hres (bad (by rw [cases' _ _ _ _ _ h1 (neg h3) h2 (neg' h4) h5]; rfl))
            · exact ⟨⟨rfl, rfl⟩, go (good (by rw [cases' _ _ _ _ _ h1 (neg h3) h2 (neg' h4) h5]; rfl))⟩
        · exact ⟨⟨rfl, rfl⟩, go (good (by rw [cases' _ _ _ _ _ h1 (neg' h3) h2 rfl rfl]; rfl))⟩
      · have h1 := of_decide_eq_true h1
        have h2 := of_decide_eq_false h2
        omega
    · refine ⟨fun h2 => ?_, fun h2 => ?_⟩
      · refine ⟨fun h4 => ?_, fun h4 => ?_⟩
        · exact hres (bad (by rw [cases' _ _ _ _ _ h1 rfl h2 (neg h4) rfl]; rfl))
        · refine ⟨fun h5 => ?_, fun h5 => ?_⟩
          · exact hres (bad (by rw [cases' _ _ _ _ _ h1 rfl h2 (neg' h4) h5]; rfl))
          · exact ⟨⟨rfl, rfl⟩, go (good (by rw [cases' _ _ _ _ _ h1 rfl h2 (neg' h4) h5]; rfl))⟩
      · exact hres (bad (by rw [cases' _ _ _ _ _ h1 rfl h2 rfl rfl]; rfl))
  · have hf0 : f = 0 := by omega
    subst hf0
    have hn : nameFrom s s.size 0 = true := hn
    have e1 : (s.toList == (⟨#[]⟩ : ByteArray).toList) = decide (s.size = 0) := str_empty s
    refine ⟨fun h1 => ?_, fun h1 => ?_⟩
    · show some (D.bool (decide ((s.size : Int) ≤ 16))) = some (D.bool _)
      have h1 : (!(s.toList == (⟨#[]⟩ : ByteArray).toList)) = true := h1
      rw [e1] at h1
      have h2 : decide (1 ≤ s.size) = true := by
        apply decide_eq_true
        have : ¬ s.size = 0 := by simpa using h1
        omega
      have h3 : decide ((s.size : Int) ≤ 16) = decide (s.size ≤ 16) := by
        apply decide_eq_decide.2; omega
      rw [nameB, hn, h2, h3]; rfl
    · show some (D.bool false) = some (D.bool _)
      have h1 : (!(s.toList == (⟨#[]⟩ : ByteArray).toList)) = false := h1
      rw [e1] at h1
      have h2 : decide (1 ≤ s.size) = false := by
        apply decide_eq_false
        have : s.size = 0 := by simpa using h1
        omega
      rw [nameB, hn, h2]; rfl
end Go.Proofs.Gas

namespace Go.Proofs.Gas
open Go.V Go.Proofs

abbrev Tl := ByteArray × Int
def sameS (a b : ByteArray) : Bool := a.toList == b.toList
def nameF : D := .clo (.func 43) [] []

theorem den43 (x : Tl) : DN 43 [.agg (encT x)] (.str x.1) := mk Try.func43 Try.call43 rfl rfl rfl

theorem den72 (x : Tl) (s : ByteArray) : DN 72 [.agg (encT x), .ro [nameF], .ro [.str s]] (.bool (sameS x.1 s)) := by
  refine mk Try.func72 Try.call72 rfl rfl ?_
  refine Or.inl ⟨by kernel_rfl, ?_⟩
  exact ⟨_, rfl, _, den43 x, rfl⟩

theorem den84 (bs : List Tl) (s : ByteArray) (hl : bs.length < 1000) : DN 84 [.list 2 (bs.map encT), .clo (.func 72) [] [.ro [nameF], .ro [.str s]]] (.int .i64 (findI (fun x => sameS x.1 s) bs 0)) := by
  refine mk Try.func84 Try.call84 rfl rfl ?_
  refine ⟨[0, 1, 7, 8], 0, [], fun σ => ∃ i : Nat, i ≤ bs.length ∧ findI (fun x : Tl => sameS x.1 s) bs 0 = findI (fun x : Tl => sameS x.1 s) (bs.drop i) i ∧ σ = ⟨[(0, .list 2 (bs.map encT)), (1, .clo (.func 72) [] [.ro [nameF], .ro [.str s]]), (7, .int .i64 (bs.map encT).length), (8, .int .i64 i)], [], .non⟩, fun σ => (1000 - slotI 8 σ).toNat, rfl, ⟨rfl, rfl⟩, ⟨0, Nat.zero_le _, rfl, rfl⟩, ?_⟩
  rintro σ ⟨i, hi, hf, rfl⟩
  refine ⟨fun h1 => ?_, fun h1 => ?_⟩
  · have h1 := of_decide_eq_true h1
    rw [List.length_map] at h1
    have hi' : i < bs.length := by omega
    have hrow : (bs.map encT)[((i : Int)).toNat]? = some (encT bs[i]) := by simp [hi']
    have hdrop : bs.drop i = bs[i] :: bs.drop (i + 1) := List.drop_eq_getElem_cons hi'
    refine ⟨by omega, _, hrow, ?_⟩
    refine ⟨_, rfl, _, den72 bs[i] s, ?_⟩
    refine ⟨fun h2 => ?_, fun h2 => ?_⟩
    · show some (D.int .i64 (i : Int)) = some (D.int .i64 (findI (fun x : Tl => sameS x.1 s) bs 0))
      rw [hf, hdrop, findI, h2]
    · refine ⟨_, wrap64 (by omega) (by omega), ?_⟩
      refine ⟨⟨rfl, rfl⟩, ⟨i + 1, hi', ?_, rfl⟩, ?_⟩
      · rw [hf, hdrop, findI, h2]; rfl
      · show (1000 - ((i : Int) + 1)).toNat < (1000 - (i : Int)).toNat
        omega
  · have h1 := of_decide_eq_false h1
    rw [List.length_map] at h1
    show some (D.int .i64 (-1)) = some (D.int .i64 (findI (fun x : Tl => sameS x.1 s) bs 0))
    rw [hf, List.drop_of_length_le (by omega)]
    rfl

theorem den71 (bs : List Tl) (s : ByteArray) (hl : bs.length < 1000) : DN 71 [.list 2 (bs.map encT), .clo (.func 72) [] [.ro [nameF], .ro [.str s]]] (.bool (bs.any fun x => sameS x.1 s)) := by
  refine mk Try.func71 Try.call71 rfl rfl ?_
  refine ⟨_, rfl, _, den84 bs s hl, ?_⟩
  show some (D.bool _) = some (D.bool _)
  rw [← findI_any (fun x : Tl => sameS x.1 s) bs 0 (Int.le_refl 0)]

/-- The error of a name behind others. -/
def freshE (ts : List Tl) (s : ByteArray) : Int := match nameB s with | false => 6 | true => match ts.any fun x => sameS x.1 s with | true => 5 | false => 0

theorem den42 (ts : List Tl) (x : Tl) (hl : ts.length < 999) : DN 42 [.list 2 ((ts ++ [x]).map encT), nameF] (.int .i64 (freshE ts x.1)) := by
  refine mk Try.func42 Try.call42 rfl rfl ?_
  have hlen : (((ts ++ [x]).map encT).length : Int) = ts.length + 1 := by simp
  refine ⟨(ts.length : Int), ?_, ?_⟩
  · show IntKind.i64.wrap ((((ts ++ [x]).map encT).length : Int) - 1) = _
    rw [hlen, wrap64 (by omega) (by omega)]; omega
  refine Or.inl ⟨by kernel_rfl, ?_⟩
  refine ⟨by omega, encT x, by simp, ?_⟩
  refine ⟨_, rfl, _, den43 x, ?_⟩
  refine ⟨_, rfl, _, den70 x.1, ?_⟩
  refine ⟨fun h1 => ?_, fun h1 => ?_⟩
  · have h1 : nameB x.1 = false := by simpa using h1
    show some (D.int .i64 6) = some (D.int .i64 (freshE ts x.1))
    rw [freshE, h1]
  · have h1 : nameB x.1 = true := by simpa using h1
    refine ⟨⟨by omega, by rw [hlen]; omega⟩, ts.map encT, by simp, ?_⟩
    refine ⟨_, rfl, _, den71 ts x.1 (by omega), ?_⟩
    refine ⟨fun h2 => ?_, fun h2 => ?_⟩
    · show some (D.int .i64 5) = some (D.int .i64 (freshE ts x.1))
      rw [freshE, h1, h2]
    · show some (D.int .i64 0) = some (D.int .i64 (freshE ts x.1))
      rw [freshE, h1, h2]

end Go.Proofs.Gas

namespace Go.Proofs.Gas
open Go.V Go.Proofs

def Space.badA (s : Space) : Bool := [s.start.lo, s.start.hi, s.limit].any (outB 0 200) || [s.rise.lo, s.rise.hi, s.blow.lo, s.blow.hi].any (outB (-20) 20)
def Space.badB (s : Space) : Bool := decide (s.start.lo > s.start.hi) || (decide (s.rise.lo > s.rise.hi) || decide (s.blow.lo > s.blow.hi))
def blowsE : List Sp → Int → Int → Option (Int × Int)
  | [], _, _ => none
  | b :: r, i, last => match [b.lo, b.hi].any (outB 0 60) with
    | true => some (i, 7)
    | false => match decide (b.lo > b.hi) || decide (b.lo ≤ last) with
      | true => some (i, 2)
      | false => blowsE r (i + 1) b.hi
def toolE (pre : List Tl) (x : Tl) : Int := match freshE pre x.1 == 0 with
  | true => match [x.2].any (outB 0 50) with | true => 7 | false => 0
  | false => freshE pre x.1
def toolsE : List Tl → List Tl → Int → Option (Int × Int)
  | _, [], _ => none
  | pre, x :: r, i => match toolE pre x != 0 with
    | true => some (i, toolE pre x)
    | false => toolsE (pre ++ [x]) r (i + 1)
def Space.check3 (s : Space) : Int × Int × Int := match [(s.tools.length : Int)].any (outB 1 3) with
  | true => (3, 0, 3)
  | false => match toolsE [] s.tools 0 with
    | some r => (3, r)
    | none => (0, 0, 0)
def Space.check2 (s : Space) : Int × Int × Int := match decide ((s.blows.length : Int) > 4) with
  | true => (2, 0, 3)
  | false => match blowsE s.blows 0 (-1) with
    | some r => (2, r)
    | none => s.check3
def Space.check (s : Space) : Int × Int × Int := match s.badA with
  | true => (1, 0, 7)
  | false => match s.badB with
    | true => (1, 0, 2)
    | false => s.check2
def tup3 (p : Int × Int × Int) : D := .tup [.int .i64 p.1, .int .i64 p.2.1, .int .i64 p.2.2]

theorem den15 (s : Space) : DN 15 [.agg s.enc] (tup3 s.check) := by
  refine mk Try.func15 Try.call15 rfl rfl ?_
  have fin : ∀ {p q : Int × Int × Int}, p = q → some (tup3 p) = some (tup3 q) := fun h => by rw [h]
  -- the last part
  have hA : s.badA = true → s.check = (1, 0, 7) := fun h => by rw [Space.check, h]
  refine ⟨_, rfl, _, den41 [s.start.lo, s.start.hi, s.limit] 0 200 (by simp), ?_⟩
  refine ⟨fun h1 => ?_, fun h1 => ?_⟩
  · exact fin (hA (by rw [Space.badA, h1]; rfl)).symm
  refine ⟨_, rfl, _, den41 [s.rise.lo, s.rise.hi, s.blow.lo, s.blow.hi] (-20) 20 (by simp), ?_⟩
  refine ⟨fun h2 => ?_, fun h2 => ?_⟩
  · exact fin (hA (by rw [Space.badA, h1, h2]; rfl)).symm
  have hA0 : s.badA = false := by rw [Space.badA, h1, h2]; rfl
  have hB : s.badB = true → s.check = (1, 0, 2) := fun h => by rw [Space.check, hA0, h]
  refine ⟨fun h3 => ?_, fun h3 => ?_⟩
  · exact fin (hB (by rw [Space.badB, h3]; rfl)).symm
  refine ⟨fun h4 => ?_, fun h4 => ?_⟩
  · exact fin (hB (by rw [Space.badB, h3, h4]; rfl)).symm
  refine ⟨fun h5 => ?_, fun h5 => ?_⟩
  · exact fin (hB (by rw [Space.badB, h3, h4, h5]; rfl)).symm
  have hB0 : s.badB = false := by rw [Space.badB, h3, h4, h5]; rfl
  have hC : s.check = s.check2 := by rw [Space.check, hA0, hB0]
  have hlm : ((s.blows.map Sp.enc).length : Int) = s.blows.length := by simp
  refine ⟨fun h6 => ?_, fun h6 => ?_⟩
  · have h6 : decide ((s.blows.length : Int) > 4) = true := by rw [← hlm]; exact h6
    exact fin (p := (2, 0, 3)) (by rw [hC, Space.check2, h6])
  have h6 : decide ((s.blows.length : Int) > 4) = false := by rw [← hlm]; exact h6
  have hlen : s.blows.length ≤ 4 := by have := of_decide_eq_false h6; omega
  have hD : ∀ r, blowsE s.blows 0 (-1) = some r → s.check = (2, r) := fun r h => by rw [hC, Space.check2, h6, h]
  have hD0 : blowsE s.blows 0 (-1) = none → s.check = s.check3 := fun h => by rw [hC, Space.check2, h6, h]
  refine ⟨[1, 5, 69, 70, 71], 1, [], fun σ => ∃ (i : Nat) (last : Int), i ≤ s.blows.length ∧ blowsE s.blows 0 (-1) = blowsE (s.blows.drop i) i last ∧
      σ = ⟨[(1, .loc 0 0), (5, .int .i64 last), (69, .list 2 (s.blows.map Sp.enc)), (70, .int .i64 (s.blows.map Sp.enc).length), (71, .int .i64 i)], [.flat false s.enc], .non⟩, fun σ => (1000 - slotI 71 σ).toNat, rfl, ⟨rfl, rfl⟩, ⟨0, -1, Nat.zero_le _, rfl, rfl⟩, ?_⟩
  rintro σ ⟨i, last, hi', hf, rfl⟩
  refine ⟨fun h1 => ?_, fun h1 => ?_⟩
  · have h1 := of_decide_eq_true h1
    rw [List.length_map] at h1
    have hi' : i < s.blows.length := by omega
    have hrow : (s.blows.map Sp.enc)[((i : Int)).toNat]? = some (s.blows[i].enc) := by simp [hi']
    have hdrop : s.blows.drop i = s.blows[i] :: s.blows.drop (i + 1) := List.drop_eq_getElem_cons hi'
    rw [hdrop, blowsE] at hf
    refine ⟨by omega, _, hrow, ?_⟩
    refine ⟨_, rfl, _, den41 [s.blows[i].lo, s.blows[i].hi] 0 60 (by simp), ?_⟩
    refine ⟨fun h2 => ?_, fun h2 => ?_⟩
    · rw [h2] at hf
      exact fin (hD _ hf).symm
    rw [h2] at hf
    refine ⟨fun h3 => ?_, fun h3 => ?_⟩
    · have h3 : decide (s.blows[i].lo > s.blows[i].hi) = true := h3
      rw [h3] at hf
      exact fin (hD _ hf).symm
    have h3 : decide (s.blows[i].lo > s.blows[i].hi) = false := h3
    refine ⟨fun h4 => ?_, fun h4 => ?_⟩
    · have h4 : decide (s.blows[i].lo ≤ last) = true := h4
      rw [h3, h4] at hf
      exact fin (hD _ hf).symm
    have h4 : decide (s.blows[i].lo ≤ last) = false := h4
    rw [h3, h4] at hf
    refine ⟨_, wrap64 (by omega) (by omega), ?_⟩
    exact ⟨⟨rfl, rfl⟩, ⟨i + 1, s.blows[i].hi, hi', hf, rfl⟩, by show (1000 - ((i : Int) + 1)).toNat < (1000 - (i : Int)).toNat; omega⟩
  have h1 := of_decide_eq_false h1
  rw [List.length_map] at h1
  have hn : s.blows.drop i = [] := List.drop_of_length_le (by omega)
  rw [hn] at hf
  have hE := hD0 hf
  have hlt : ((s.tools.map encT).length : Int) = s.tools.length := by simp
  refine ⟨_, rfl, _, den41 [((s.tools.map encT).length : Int)] 1 3 (by simp), ?_⟩
  refine ⟨fun h7 => ?_, fun h7 => ?_⟩
  · have h7 : [(s.tools.length : Int)].any (outB 1 3) = true := by rw [← hlt]; exact h7
    exact fin (p := (3, 0, 3)) (by rw [hE, Space.check3, h7])
  have h7 : [(s.tools.length : Int)].any (outB 1 3) = false := by rw [← hlt]; exact h7
  have htl : s.tools.length ≤ 3 := by
    simp [outB] at h7; omega
  have hF : ∀ r, toolsE [] s.tools 0 = some r → s.check = (3, r) := fun r h => by rw [hE, Space.check3, h7, h]
  have hF0 : toolsE [] s.tools 0 = none → s.check = (0, 0, 0) := fun h => by rw [hE, Space.check3, h7, h]
  refine ⟨[1, 106, 107, 108], 1, [], fun σ => ∃ (i : Nat), i ≤ s.tools.length ∧ toolsE [] s.tools 0 = toolsE (s.tools.take i) (s.tools.drop i) i ∧
      σ = ⟨[(1, .loc 0 0), (106, .list 2 (s.tools.map encT)), (107, .int .i64 (s.tools.map encT).length), (108, .int .i64 i)], [.flat false s.enc], .non⟩, fun σ => (1000 - slotI 108 σ).toNat, rfl, ⟨rfl, rfl⟩, ⟨0, Nat.zero_le _, rfl, rfl⟩, ?_⟩
  rintro σ ⟨i, hi', hf, rfl⟩
  refine ⟨fun h1 => ?_, fun h1 => ?_⟩
  · have h1 := of_decide_eq_true h1
    rw [List.length_map] at h1
    have hi' : i < s.tools.length := by omega
    have hrow : (s.tools.map encT)[((i : Int)).toNat]? = some (encT s.tools[i]) := by simp [hi']
    have hdrop : s.tools.drop i = s.tools[i] :: s.tools.drop (i + 1) := List.drop_eq_getElem_cons hi'
    have htake : s.tools.take (i + 1) = s.tools.take i ++ [s.tools[i]] := by simp
    rw [hdrop, toolsE] at hf
    refine ⟨by omega, _, hrow, ?_⟩
    refine ⟨_, wrap64 (by omega) (by omega), ?_⟩
    refine ⟨⟨by omega, by rw [hlt]; omega⟩, (s.tools.take i ++ [s.tools[i]]).map encT, ?_, ?_⟩
    · rw [← htake, List.map_take]
      congr 1
    refine ⟨_, rfl, _, den42 (s.tools.take i) s.tools[i] (by rw [List.length_take]; omega), ?_⟩
    have next : toolE (s.tools.take i) s.tools[i] = 0 → toolsE [] s.tools 0 = toolsE (s.tools.take (i + 1)) (s.tools.drop (i + 1)) ((i : Int) + 1) := fun h => by
      rw [hf, h, htake]; rfl
    have bad : toolE (s.tools.take i) s.tools[i] ≠ 0 → s.check = (3, (i : Int), toolE (s.tools.take i) s.tools[i]) := fun h => by
      refine hF _ ?_
      have : (toolE (s.tools.take i) s.tools[i] != 0) = true := by simpa using h
      rw [hf, this]
    refine ⟨fun h2 => ?_, fun h2 => ?_⟩
    · have h2 : (freshE (s.tools.take i) s.tools[i].1 == 0) = true := h2
      refine ⟨_, rfl, _, den41 [s.tools[i].2] 0 50 (by simp), ?_⟩
      refine ⟨fun h3 => ?_, fun h3 => ?_⟩
      · have ht : toolE (s.tools.take i) s.tools[i] = 7 := by rw [toolE, h2, h3]
        have hb := bad (by rw [ht]; decide)
        rw [ht] at hb
        refine ⟨fun _ => fin hb.symm, fun h4 => absurd h4 (by decide)⟩
      · have ht : toolE (s.tools.take i) s.tools[i] = 0 := by rw [toolE, h2, h3]
        have h0 : freshE (s.tools.take i) s.tools[i].1 = 0 := by simpa using h2
        refine ⟨fun h4 => ?_, fun h4 => ?_⟩
        · have h4 : (freshE (s.tools.take i) s.tools[i].1 != 0) = true := h4
          rw [h0] at h4; cases h4
        refine ⟨_, wrap64 (by omega) (by omega), ?_⟩
        exact ⟨⟨rfl, rfl⟩, ⟨i + 1, hi', next ht, rfl⟩, by show (1000 - ((i : Int) + 1)).toNat < (1000 - (i : Int)).toNat; omega⟩
    · have h2 : (freshE (s.tools.take i) s.tools[i].1 == 0) = false := h2
      have ht : toolE (s.tools.take i) s.tools[i] = freshE (s.tools.take i) s.tools[i].1 := by rw [toolE, h2]
      have h0 : ¬ freshE (s.tools.take i) s.tools[i].1 = 0 := by simpa using h2
      have hb := bad (by rw [ht]; exact h0)
      rw [ht] at hb
      refine ⟨fun _ => fin hb.symm, fun h4 => ?_⟩
      have h4 : (freshE (s.tools.take i) s.tools[i].1 != 0) = false := h4
      have : freshE (s.tools.take i) s.tools[i].1 = 0 := by simpa using h4
      exact absurd this h0
  have h1 := of_decide_eq_false h1
  rw [List.length_map] at h1
  have hn : s.tools.drop i = [] := List.drop_of_length_le (by omega)
  rw [hn] at hf
  exact fin (hF0 hf).symm

end Go.Proofs.Gas

namespace Go.Proofs.Gas
open Go.V Go.Proofs

/-- The spans of times at which is blown, one behind the other. -/
def blowsOK : List Sp → Int → Prop
  | [], _ => True
  | b :: r, last => (0 ≤ b.lo ∧ b.lo ≤ b.hi ∧ b.hi ≤ 60 ∧ last < b.lo) ∧ blowsOK r b.hi
def toolsGood : List Tl → List Tl → Prop
  | _, [] => True
  | pre, x :: r => (freshE pre x.1 = 0 ∧ 0 ≤ x.2 ∧ x.2 ≤ 50) ∧ toolsGood (pre ++ [x]) r
structure Space.Valid (s : Space) : Prop where
  start : 0 ≤ s.start.lo ∧ s.start.lo ≤ s.start.hi ∧ s.start.hi ≤ 200
  limit : 0 ≤ s.limit ∧ s.limit ≤ 200
  rise : -20 ≤ s.rise.lo ∧ s.rise.lo ≤ s.rise.hi ∧ s.rise.hi ≤ 20
  blow : -20 ≤ s.blow.lo ∧ s.blow.lo ≤ s.blow.hi ∧ s.blow.hi ≤ 20
  blen : s.blows.length ≤ 4
  blows : blowsOK s.blows (-1)
  tlen : 1 ≤ s.tools.length ∧ s.tools.length ≤ 3
  tools : toolsGood [] s.tools

theorem freshE_vals (pre : List Tl) (n : ByteArray) : freshE pre n = 0 ∨ freshE pre n = 5 ∨ freshE pre n = 6 := by
  unfold freshE
  split
  · exact .inr (.inr rfl)
  · split
    · exact .inr (.inl rfl)
    · exact .inl rfl

theorem outB_false {lo hi n : Int} : outB lo hi n = false ↔ lo ≤ n ∧ n ≤ hi := by
  simp [outB]
theorem outB_true {lo hi n : Int} : outB lo hi n = true ↔ ¬ (lo ≤ n ∧ n ≤ hi) := by
  rw [← outB_false]; simp

theorem blowsE_none : ∀ (bs : List Sp) (i last : Int), blowsE bs i last = none ↔ blowsOK bs last
  | [], _, _ => ⟨fun _ => trivial, fun _ => rfl⟩
  | b :: r, i, last => by
    have ih := blowsE_none r (i + 1) b.hi
    simp only [blowsE, blowsOK, List.any_cons, List.any_nil, Bool.or_false]
    cases h1 : outB 0 60 b.lo || outB 0 60 b.hi with
    | true =>
      simp only [reduceCtorEq, false_iff]
      rintro ⟨⟨g1, g2, g3, _⟩, _⟩
      rcases Bool.or_eq_true _ _ ▸ h1 with h | h
      · exact outB_true.1 h ⟨g1, by omega⟩
      · exact outB_true.1 h ⟨by omega, g3⟩
    | false =>
      rw [Bool.or_eq_false_iff, outB_false, outB_false] at h1
      simp only
      cases h2 : decide (b.lo > b.hi) || decide (b.lo ≤ last) with
      | true =>
        simp only [reduceCtorEq, false_iff]
        rintro ⟨⟨g1, g2, g3, g4⟩, _⟩
        simp at h2
        omega
      | false =>
        simp only [ih]
        simp at h2
        constructor
        · intro h; exact ⟨⟨by omega, by omega, by omega, by omega⟩, h⟩
        · intro h; exact h.2

theorem toolE_zero (pre : List Tl) (x : Tl) : toolE pre x = 0 ↔ freshE pre x.1 = 0 ∧ 0 ≤ x.2 ∧ x.2 ≤ 50 := by
  simp only [toolE, List.any_cons, List.any_nil, Bool.or_false]
  cases h1 : freshE pre x.1 == 0 with
  | true =>
    have h1 : freshE pre x.1 = 0 := by simpa using h1
    cases h2 : outB 0 50 x.2 with
    | true =>
      have := outB_true.1 h2
      constructor
      · intro h; cases h
      · intro h; exact absurd h.2 this
    | false =>
      have := outB_false.1 h2
      exact ⟨fun _ => ⟨h1, this⟩, fun _ => rfl⟩
  | false =>
    have h1 : ¬ freshE pre x.1 = 0 := by simpa using h1
    exact ⟨fun h => absurd h h1, fun h => absurd h.1 h1⟩

theorem toolsE_none : ∀ (ts pre : List Tl) (i : Int), toolsE pre ts i = none ↔ toolsGood pre ts
  | [], _, _ => ⟨fun _ => trivial, fun _ => rfl⟩
  | x :: r, pre, i => by
    have ih := toolsE_none r (pre ++ [x]) (i + 1)
    simp only [toolsE, toolsGood, ← toolE_zero]
    cases h1 : toolE pre x != 0 with
    | true =>
      have h1 : ¬ toolE pre x = 0 := by simpa using h1
      simp only [reduceCtorEq, false_iff]
      exact fun h => h1 h.1
    | false =>
      have h1 : toolE pre x = 0 := by simpa using h1
      simp only [ih]
      exact ⟨fun h => ⟨h1, h⟩, fun h => h.2⟩

theorem blowsE_err : ∀ (bs : List Sp) (i last : Int) (r : Int × Int), blowsE bs i last = some r → r.2 = 7 ∨ r.2 = 2
  | [], _, _, _, h => by cases h
  | b :: l, i, last, r, h => by
    simp only [blowsE] at h
    split at h
    · cases h; exact .inl rfl
    · split at h
      · cases h; exact .inr rfl
      · exact blowsE_err l _ _ r h

theorem toolE_vals (pre : List Tl) (x : Tl) : toolE pre x = 0 ∨ toolE pre x = 5 ∨ toolE pre x = 6 ∨ toolE pre x = 7 := by
  simp only [toolE]
  split
  · split
    · exact .inr (.inr (.inr rfl))
    · exact .inl rfl
  · rcases freshE_vals pre x.1 with h | h | h <;> simp [h]

theorem toolsE_err : ∀ (ts pre : List Tl) (i : Int) (r : Int × Int), toolsE pre ts i = some r → r.2 = 5 ∨ r.2 = 6 ∨ r.2 = 7
  | [], _, _, _, h => by cases h
  | x :: l, pre, i, r, h => by
    simp only [toolsE] at h
    split at h
    · rename_i h1
      cases h
      rcases toolE_vals pre x with h | h | h | h
      · rw [h] at h1; cases h1
      · exact .inl h
      · exact .inr (.inl h)
      · exact .inr (.inr h)
    · exact toolsE_err l _ _ r h

/-- The error of a space. -/
def Space.err0 (s : Space) : Int := s.check.2.2

theorem Space.valid_iff (s : Space) : s.err0 = 0 ↔ s.Valid := by
  unfold Space.err0 Space.check
  cases hA : s.badA with
  | true =>
    simp only [show ((7 : Int) = 0) = False from by decide, false_iff]
    intro h
    obtain ⟨h1, h2, h3, h4⟩ := h
    simp [Space.badA, outB] at hA
    omega
  | false =>
    have hA' : (0 ≤ s.start.lo ∧ s.start.lo ≤ 200) ∧ (0 ≤ s.start.hi ∧ s.start.hi ≤ 200) ∧ (0 ≤ s.limit ∧ s.limit ≤ 200) ∧ (-20 ≤ s.rise.lo ∧ s.rise.lo ≤ 20) ∧ (-20 ≤ s.rise.hi ∧ s.rise.hi ≤ 20) ∧ (-20 ≤ s.blow.lo ∧ s.blow.lo ≤ 20) ∧ (-20 ≤ s.blow.hi ∧ s.blow.hi ≤ 20) := by
      simp [Space.badA, outB] at hA
      omega
    cases hB : s.badB with
    | true =>
      simp only [show ((2 : Int) = 0) = False from by decide, false_iff]
      intro h
      obtain ⟨h1, h2, h3, h4⟩ := h
      simp [Space.badB] at hB
      omega
    | false =>
      have hB' : s.start.lo ≤ s.start.hi ∧ s.rise.lo ≤ s.rise.hi ∧ s.blow.lo ≤ s.blow.hi := by
        simp [Space.badB] at hB
        omega
      simp only
      unfold Space.check2
      cases hC : decide ((s.blows.length : Int) > 4) with
      | true =>
        simp only [show ((3 : Int) = 0) = False from by decide, false_iff]
        intro h
        have h1 := h.blen
        have h2 := of_decide_eq_true hC
        omega
      | false =>
        have hC' : s.blows.length ≤ 4 := by have := of_decide_eq_false hC; omega
        simp only
        cases hD : blowsE s.blows 0 (-1) with
        | some r =>
          have h1 := blowsE_err _ _ _ r hD
          simp only
          constructor
          · intro h; omega
          · intro h
            have := (blowsE_none s.blows 0 (-1)).2 h.blows
            rw [hD] at this; cases this
        | none =>
          have hD' := (blowsE_none s.blows 0 (-1)).1 hD
          simp only
          unfold Space.check3
          cases hE : [(s.tools.length : Int)].any (outB 1 3) with
          | true =>
            simp only [show ((3 : Int) = 0) = False from by decide, false_iff]
            intro h
            have h1 := h.tlen
            simp [outB] at hE
            omega
          | false =>
            have hE' : 1 ≤ s.tools.length ∧ s.tools.length ≤ 3 := by simp [outB] at hE; omega
            simp only
            cases hF : toolsE [] s.tools 0 with
            | some r =>
              have h1 := toolsE_err _ _ _ r hF
              simp only
              constructor
              · intro h; omega
              · intro h
                have := (toolsE_none s.tools [] 0).2 h.tools
                rw [hF] at this; cases this
            | none =>
              have hF' := (toolsE_none s.tools [] 0).1 hF
              exact ⟨fun _ => ⟨by omega, by omega, by omega, by omega, hC', hD', hE', hF'⟩, fun _ => rfl⟩

theorem toolsGood_err : ∀ {ts pre : List Tl}, toolsGood pre ts → ∀ x ∈ ts, 0 ≤ x.2 ∧ x.2 ≤ 50
  | x :: r, pre, h, y, hy => by
    rcases List.mem_cons.1 hy with rfl | hy
    · exact h.1.2
    · exact toolsGood_err h.2 y hy

theorem Space.Valid.err {s : Space} (h : s.Valid) (t : Int) : 0 ≤ s.err t ∧ s.err t ≤ 50 := by
  unfold Space.err
  cases hx : s.tools[t.toNat]? with
  | none => exact ⟨Int.le_refl 0, by decide⟩
  | some x => exact toolsGood_err h.tools x (List.mem_of_getElem? hx)

theorem Space.Valid.small {s : Space} (h : s.Valid) : s.small := by
  obtain ⟨h1, h2, h3, h4, h5, h6, h7, h8⟩ := h
  exact ⟨by omega, ⟨⟨by omega, by omega⟩, by omega, by omega⟩, ⟨⟨by omega, by omega⟩, by omega, by omega⟩, ⟨⟨by omega, by omega⟩, by omega, by omega⟩⟩

end Go.Proofs.Gas

namespace Go.Proofs.Gas
open Go.V Go.Proofs

def Space.readBad (s : Space) (r : Rd) : Int := match [r.tool].any (outB 0 ((s.tools.length : Int) - 1)) with
  | true => 4
  | false => match [r.minute].any (outB 0 60) || [r.shown].any (outB (-50) 250) with
    | true => 7
    | false => 0
def Space.take (s : Space) (m : Seen) (r : Rd) : Seen := m.put r.minute (both (left m r.minute) ⟨r.shown - s.err r.tool, r.shown + s.err r.tool⟩)
def Space.reads (s : Space) : List Rd → Seen → Seen × Int
  | [], m => (m, 0)
  | r :: l, m => match s.readBad r != 0 with
    | true => (m, s.readBad r)
    | false => s.reads l (s.take m r)
def Space.openE (s : Space) (l : List Rd) (minute : Int) : Option Seen × Int := match s.err0 != 0 with
  | true => (none, s.err0)
  | false => match decide ((l.length : Int) > 12) with
    | true => (none, 3)
    | false => match (s.reads l []).2 != 0 with
      | true => (some (s.reads l []).1, (s.reads l []).2)
      | false => match [minute].any (outB 0 60) with
        | true => (some (s.reads l []).1, 7)
        | false => (some (s.reads l []).1, 0)
def zeroM : List D := [.int .i64 0, .int .i64 0, .int .i64 0, .int .i64 0, .int .i64 0, .int .i64 0, .int .i64 0, .list 0 [], .list 0 [], .nilm]
def Space.encO (s : Space) : Option Seen → List D
  | none => zeroM
  | some m => s.encM m
def Space.openD (s : Space) (r : Option Seen × Int) : D := .tup [.agg (s.encO r.1), .int .i64 r.2]

theorem den76 (s : Space) (l : List Rd) (minute : Int) : DN 76 [.agg s.enc, .list 3 (l.map Rd.enc), .int .i64 minute] (s.openD (s.openE l minute)) := by
  refine mk Try.func76 Try.call76 rfl rfl ?_
  have fin : ∀ {p q : Option Seen × Int}, p = q → some (s.openD p) = some (s.openD q) := fun h => by rw [h]
  refine ⟨_, rfl, _, den15 s, ?_⟩
  refine ⟨fun h1 => ?_, fun h1 => ?_⟩
  · have h1 : (s.err0 != 0) = true := h1
    exact fin (p := (none, s.err0)) (by rw [Space.openE, h1])
  have h1 : (s.err0 != 0) = false := h1
  have hv : s.Valid := s.valid_iff.1 (by simpa using h1)
  have hlm : ((l.map Rd.enc).length : Int) = l.length := by simp
  refine ⟨fun h2 => ?_, fun h2 => ?_⟩
  · have h2 : decide ((l.length : Int) > 12) = true := by rw [← hlm]; exact h2
    exact fin (p := (none, 3)) (by rw [Space.openE, h1, h2])
  have h2 : decide ((l.length : Int) > 12) = false := by rw [← hlm]; exact h2
  have hlen : l.length ≤ 12 := by have := of_decide_eq_false h2; omega
  have hC : s.openE l minute = match (s.reads l []).2 != 0 with
      | true => (some (s.reads l []).1, (s.reads l []).2)
      | false => match [minute].any (outB 0 60) with
        | true => (some (s.reads l []).1, 7)
        | false => (some (s.reads l []).1, 0) := by rw [Space.openE, h1, h2]
  have hlt : ((s.tools.map encT).length : Int) = s.tools.length := by simp
  have hmin : (60 : Nat) = 60 := rfl
  refine ⟨[2, 3, 6, 28, 29, 30], 3, [], fun σ => ∃ (i : Nat) (m : Seen), i ≤ l.length ∧ s.reads l [] = s.reads (l.drop i) m ∧
      σ = ⟨[(2, .int .i64 minute), (3, .loc 0 0), (6, .loc 1 0), (28, .list 3 (l.map Rd.enc)), (29, .int .i64 (l.map Rd.enc).length), (30, .int .i64 i)],
        [.flat false s.enc, .flat false [.int .i64 s.start.lo, .int .i64 s.start.hi, .int .i64 s.rise.lo, .int .i64 s.rise.hi, .int .i64 s.blow.lo, .int .i64 s.blow.hi, .int .i64 s.limit, .list 2 (s.blows.map Sp.enc), .list 2 (s.tools.map encT), .mloc 2], .map false m.ks m.vs], .non⟩,
    fun σ => (1000 - slotI 30 σ).toNat, rfl, ⟨rfl, rfl⟩, ⟨0, [], Nat.zero_le _, rfl, rfl⟩, ?_⟩
  rintro σ ⟨i, m, hi', hf, rfl⟩
  refine ⟨fun h3 => ?_, fun h3 => ?_⟩
  · have h3 := of_decide_eq_true h3
    rw [List.length_map] at h3
    have hi' : i < l.length := by omega
    have hrow : (l.map Rd.enc)[((i : Int)).toNat]? = some (l[i].enc) := by simp [hi']
    have hdrop : l.drop i = l[i] :: l.drop (i + 1) := List.drop_eq_getElem_cons hi'
    obtain ⟨r, hr⟩ : ∃ r, l[i] = r := ⟨_, rfl⟩
    rw [hdrop, hr, Space.reads] at hf
    rw [hr] at hrow
    have bad : s.readBad r ≠ 0 → s.openE l minute = (some m, s.readBad r) := fun h => by
      have h' : (s.readBad r != 0) = true := by simpa using h
      rw [h'] at hf
      have hf : s.reads l [] = (m, s.readBad r) := hf
      rw [hC, hf]
      simp only [h']
    refine ⟨by omega, _, hrow, ?_⟩
    refine ⟨(s.tools.length : Int) - 1, ?_, ?_⟩
    · show IntKind.i64.wrap (((s.tools.map encT).length : Int) - 1) = _
      have := hv.tlen
      rw [hlt, wrap64 (by omega) (by omega)]
    refine ⟨_, rfl, _, den41 [r.tool] 0 ((s.tools.length : Int) - 1) (by simp), ?_⟩
    refine ⟨fun h4 => ?_, fun h4 => ?_⟩
    · have hb : s.readBad r = 4 := by rw [Space.readBad, h4]
      exact fin (p := (some m, 4)) (by rw [bad (by rw [hb]; decide), hb])
    refine ⟨_, rfl, _, den41 [r.minute] 0 60 (by simp), ?_⟩
    have b7 : ([r.minute].any (outB 0 60) || [r.shown].any (outB (-50) 250)) = true → some (s.openD (some m, 7)) = some (s.openD (s.openE l minute)) := fun h => by
      have hb : s.readBad r = 7 := by rw [Space.readBad, h4, h]
      exact fin (p := (some m, 7)) (by rw [bad (by rw [hb]; decide), hb])
    refine ⟨fun h5 => ?_, fun h5 => ?_⟩
    · exact b7 (by rw [h5]; rfl)
    refine ⟨_, rfl, _, den41 [r.shown] (-50) 250 (by simp), ?_⟩
    refine ⟨fun h6 => ?_, fun h6 => ?_⟩
    · exact b7 (by rw [h5, h6]; rfl)
    have hb : s.readBad r = 0 := by rw [Space.readBad, h4, h5, h6]; rfl
    rw [hb] at hf
    have hf : s.reads l [] = s.reads (l.drop (i + 1)) (s.take m r) := hf
    have hsh : -50 ≤ r.shown ∧ r.shown ≤ 250 := by simp [outB] at h6; omega
    have hto : 0 ≤ r.tool ∧ r.tool.toNat < s.tools.length := by simp [outB] at h4; omega
    obtain ⟨x, hx⟩ : ∃ x, s.tools[r.tool.toNat]? = some x := ⟨_, List.getElem?_eq_getElem hto.2⟩
    have hxe : s.err r.tool = x.2 := by unfold Space.err; rw [hx]
    have hxr := hv.err r.tool
    rw [hxe] at hxr
    have hrow2 : (s.tools.map encT)[r.tool.toNat]? = some (encT x) := by rw [List.getElem?_map, hx]; rfl
    refine ⟨hto.1, _, hrow2, ?_⟩
    refine Or.inl ⟨by kernel_rfl, ?_⟩
    refine ⟨_, rfl, _, den57 s m r.minute, ?_⟩
    refine ⟨_, wrap64 (by omega) (by omega), ?_⟩
    refine ⟨_, wrap64 (by omega) (by omega), ?_⟩
    refine ⟨_, rfl, _, den56 (left m r.minute) ⟨r.shown - x.2, r.shown + x.2⟩, ?_⟩
    have htk : s.take m r = m.put r.minute (both (left m r.minute) ⟨r.shown - x.2, r.shown + x.2⟩) := by rw [Space.take, hxe]
    obtain ⟨v, hvv⟩ : ∃ v, both (left m r.minute) ⟨r.shown - x.2, r.shown + x.2⟩ = v := ⟨_, rfl⟩
    rw [hvv] at htk ⊢
    obtain ⟨o, ho, hmo⟩ := m.find r.minute
    cases o with
    | none =>
      obtain ⟨_, hmo⟩ := hmo
      refine ⟨none, ho, _, _, ⟨rfl, rfl⟩, ?_⟩
      refine ⟨_, wrap64 (by omega) (by omega), ?_⟩
      refine ⟨⟨rfl, rfl⟩, ⟨i + 1, _, hi', hf, ?_⟩, by show (1000 - ((i : Int) + 1)).toNat < (1000 - (i : Int)).toNat; omega⟩
      rw [htk, (hmo v).1, (hmo v).2]
      rfl
    | some j =>
      obtain ⟨_, hmo⟩ := hmo
      refine ⟨some j, ho, _, _, ⟨rfl, rfl⟩, ?_⟩
      refine ⟨_, wrap64 (by omega) (by omega), ?_⟩
      refine ⟨⟨rfl, rfl⟩, ⟨i + 1, _, hi', hf, ?_⟩, by show (1000 - ((i : Int) + 1)).toNat < (1000 - (i : Int)).toNat; omega⟩
      rw [htk, (hmo v).1, (hmo v).2]
      rfl
  · have h3 := of_decide_eq_false h3
    rw [List.length_map] at h3
    have hn : l.drop i = [] := List.drop_of_length_le (by omega)
    rw [hn] at hf
    have hf : s.reads l [] = (m, 0) := hf
    refine ⟨_, rfl, _, den41 [minute] 0 60 (by simp), ?_⟩
    refine ⟨fun h4 => ?_, fun h4 => ?_⟩
    · exact fin (p := (some m, 7)) (by rw [hC, hf, h4]; rfl)
    · exact fin (p := (some m, 0)) (by rw [hC, hf, h4]; rfl)

end Go.Proofs.Gas

namespace Go.Proofs.Gas
open Go.V Go.Proofs

theorem get_put (n : Int) (v : Sp) (t : Int) : ∀ m : Seen, (m.put n v).get t = if t = n then some v else m.get t
  | [] => by
    simp only [Seen.put, Seen.get]
    by_cases h : t = n
    · simp [h]
    · have : (t == n) = false := by simp [h]
      rw [this, if_neg h]
  | x :: r => by
    have ih := get_put n v t r
    simp only [Seen.put]
    cases hx : n == x.1 with
    | true =>
      have hx : n = x.1 := by simpa using hx
      simp only [Seen.get]
      by_cases h : t = n
      · have : (t == x.1) = true := by simp [h, hx]
        rw [this, if_pos h]
      · have : (t == x.1) = false := by simp [← hx, h]
        rw [this, if_neg h]
    | false =>
      have hx : ¬ n = x.1 := by simpa using hx
      simp only [Seen.get]
      cases ht : t == x.1 with
      | true =>
        have ht : t = x.1 := by simpa using ht
        have : ¬ t = n := fun e => hx (e ▸ ht)
        rw [if_neg this]
      | false => exact ih

theorem left_put (m : Seen) (n : Int) (v : Sp) (t : Int) : left (m.put n v) t = if t = n then v else left m t := by
  unfold left
  rw [get_put]
  split <;> rfl

theorem left_nil (t : Int) : left [] t = ⟨0, 200⟩ := rfl

theorem readBad_ok {s : Space} {r : Rd} : s.readBad r = 0 ↔ (0 ≤ r.tool ∧ r.tool < s.tools.length) ∧ (0 ≤ r.minute ∧ r.minute ≤ 60) ∧ -50 ≤ r.shown ∧ r.shown ≤ 250 := by
  unfold Space.readBad
  cases h1 : [r.tool].any (outB 0 ((s.tools.length : Int) - 1)) with
  | true =>
    have : ¬ (0 ≤ r.tool ∧ r.tool < s.tools.length) := by simp [outB] at h1; omega
    simp only [show ((4 : Int) = 0) = False from by decide, false_iff]
    exact fun h => this h.1
  | false =>
    have g1 : 0 ≤ r.tool ∧ r.tool < s.tools.length := by simp [outB] at h1; omega
    cases h2 : [r.minute].any (outB 0 60) || [r.shown].any (outB (-50) 250) with
    | true =>
      simp only [show ((7 : Int) = 0) = False from by decide, false_iff]
      intro h
      simp [outB] at h2; omega
    | false =>
      simp only [true_iff]
      simp [outB] at h2
      exact ⟨g1, by omega, by omega, by omega⟩

theorem readBad_vals (s : Space) (r : Rd) : s.readBad r = 0 ∨ s.readBad r = 4 ∨ s.readBad r = 7 := by
  unfold Space.readBad
  split
  · exact .inr (.inl rfl)
  · split
    · exact .inr (.inr rfl)
    · exact .inl rfl

theorem reads_small {s : Space} (hv : s.Valid) : ∀ (l : List Rd) (m : Seen), m.small → (s.reads l m).1.small
  | [], m, h => h
  | r :: l, m, h => by
    unfold Space.reads
    split
    · exact h
    · rename_i hb
      have hb : s.readBad r = 0 := by simpa using hb
      obtain ⟨_, _, h3⟩ := readBad_ok.1 hb
      refine reads_small hv l _ fun t => ?_
      unfold Space.take
      rw [left_put]
      split
      · refine both_small (h _) ?_
        have := hv.err r.tool
        exact ⟨by simp only; omega, by simp only; omega⟩
      · exact h t

theorem nil_small : Seen.small [] := fun t => show Sp.small ⟨0, 200⟩ from ⟨by decide, by decide⟩

def Space.seen (s : Space) (l : List Rd) : Seen := (s.reads l []).1

theorem openE_inv (s : Space) (l : List Rd) (minute : Int) :
    (∃ e, e ≠ 0 ∧ s.openE l minute = (none, e)) ∨ (s.Valid ∧ ∃ e, e ≠ 0 ∧ s.openE l minute = (some (s.seen l), e)) ∨
    (s.Valid ∧ l.length ≤ 12 ∧ (s.reads l []).2 = 0 ∧ (0 ≤ minute ∧ minute ≤ 60) ∧ s.openE l minute = (some (s.seen l), 0)) := by
  unfold Space.openE
  cases h1 : s.err0 != 0 with
  | true => exact .inl ⟨s.err0, by simpa using h1, rfl⟩
  | false =>
    have hv : s.Valid := s.valid_iff.1 (by simpa using h1)
    cases h2 : decide ((l.length : Int) > 12) with
    | true => exact .inl ⟨3, by decide, rfl⟩
    | false =>
      have h2 := of_decide_eq_false h2
      cases h3 : (s.reads l []).2 != 0 with
      | true => exact .inr (.inl ⟨hv, _, by simpa using h3, rfl⟩)
      | false =>
        cases h4 : [minute].any (outB 0 60) with
        | true => exact .inr (.inl ⟨hv, 7, by decide, rfl⟩)
        | false =>
          refine .inr (.inr ⟨hv, by omega, by simpa using h3, ?_, rfl⟩)
          simp [outB] at h4; omega

def Space.levelE (s : Space) (l : List Rd) (minute : Int) : Sp × Int := match (s.openE l minute).2 != 0 with
  | true => (⟨0, 0⟩, (s.openE l minute).2)
  | false => if s.at (s.seen l) minute = none' then (⟨0, 0⟩, 9) else (s.at (s.seen l) minute, 0)
def Space.enterD (s : Space) (o : Option Seen) (v : Sp × Int) : D := .tup [.agg (s.encO o), .agg v.1.enc, .int .i64 v.2]

theorem den48 (s : Space) (l : List Rd) (minute : Int) : DN 48 [.agg s.enc, .list 3 (l.map Rd.enc), .int .i64 minute] (s.enterD (s.openE l minute).1 (s.levelE l minute)) := by
  refine mk Try.func48 Try.call48 rfl rfl ?_
  have h76 := den76 s l minute
  rcases openE_inv s l minute with ⟨e, he, ho⟩ | ⟨hv, e, he, ho⟩ | ⟨hv, hl, hrd, hmin, ho⟩
  · rw [ho] at h76
    have hlv : s.levelE l minute = (⟨0, 0⟩, e) := by unfold Space.levelE; rw [ho, show (e != 0) = true from by simpa using he]
    rw [ho, hlv]
    refine ⟨_, rfl, _, h76, ?_⟩
    refine ⟨fun h1 => absurd (by simpa using h1) he, fun h1 => ?_⟩
    refine Or.inr (Or.inl ⟨3, [1, 2], by kernel_rfl, ?_⟩)
    refine ⟨(by first | exact ⟨rfl, rfl, trivial⟩ | exact ⟨rfl, trivial⟩ | exact trivial), ?_⟩
    refine ⟨(by first | exact ⟨rfl, rfl, trivial⟩ | exact ⟨rfl, trivial⟩ | exact trivial), ?_⟩
    refine ⟨(by first | exact ⟨rfl, rfl, trivial⟩ | exact ⟨rfl, trivial⟩ | exact trivial), ?_⟩
    exact rfl
  · rw [ho] at h76
    have hlv : s.levelE l minute = (⟨0, 0⟩, e) := by unfold Space.levelE; rw [ho, show (e != 0) = true from by simpa using he]
    rw [ho, hlv]
    refine ⟨_, rfl, _, h76, ?_⟩
    refine ⟨fun h1 => absurd (by simpa using h1) he, fun h1 => ?_⟩
    refine Or.inr (Or.inl ⟨3, [1, 2], by kernel_rfl, ?_⟩)
    refine ⟨(by first | exact ⟨rfl, rfl, trivial⟩ | exact ⟨rfl, trivial⟩ | exact trivial), ?_⟩
    refine ⟨(by first | exact ⟨rfl, rfl, trivial⟩ | exact ⟨rfl, trivial⟩ | exact trivial), ?_⟩
    refine ⟨(by first | exact ⟨rfl, rfl, trivial⟩ | exact ⟨rfl, trivial⟩ | exact trivial), ?_⟩
    exact rfl
  · rw [ho] at h76
    have h77 := den77 s (s.seen l) hv.small (reads_small hv l [] nil_small) minute hmin
    have hlv : s.levelE l minute = if s.at (s.seen l) minute = none' then (⟨0, 0⟩, 9) else (s.at (s.seen l) minute, 0) := by unfold Space.levelE; rw [ho]; rfl
    rw [ho, hlv]
    refine ⟨_, rfl, _, h76, ?_⟩
    refine ⟨fun h1 => ?_, fun h1 => ?_⟩
    · by_cases hn : s.at (s.seen l) minute = none'
      · rw [if_pos hn]
        rw [atE, if_pos hn] at h77
        refine ⟨_, rfl, _, h77, ?_⟩
        refine Or.inr (Or.inl ⟨3, [1, 2], by kernel_rfl, ?_⟩)
        refine ⟨(by first | exact ⟨rfl, rfl, trivial⟩ | exact ⟨rfl, trivial⟩ | exact trivial), ?_⟩
        refine ⟨(by first | exact ⟨rfl, rfl, trivial⟩ | exact ⟨rfl, trivial⟩ | exact trivial), ?_⟩
        refine ⟨(by first | exact ⟨rfl, rfl, trivial⟩ | exact ⟨rfl, trivial⟩ | exact trivial), ?_⟩
        exact rfl
      · rw [if_neg hn]
        rw [atE, if_neg hn] at h77
        refine ⟨_, rfl, _, h77, ?_⟩
        refine Or.inr (Or.inl ⟨3, [1, 2], by kernel_rfl, ?_⟩)
        refine ⟨(by first | exact ⟨rfl, rfl, trivial⟩ | exact ⟨rfl, trivial⟩ | exact trivial), ?_⟩
        refine ⟨(by first | exact ⟨rfl, rfl, trivial⟩ | exact ⟨rfl, trivial⟩ | exact trivial), ?_⟩
        refine ⟨(by first | exact ⟨rfl, rfl, trivial⟩ | exact ⟨rfl, trivial⟩ | exact trivial), ?_⟩
        exact rfl
    · cases h1

def levD (v : Sp × Int) : D := .tup [.agg v.1.enc, .int .i64 v.2]

theorem den17 (s : Space) (l : List Rd) (minute : Int) : DN 17 [.agg s.enc, .list 3 (l.map Rd.enc), .int .i64 minute] (levD (s.levelE l minute)) := by
  refine mk Try.func17 Try.call17 rfl rfl ?_
  refine ⟨_, rfl, _, den48 s l minute, ?_⟩
  rcases openE_inv s l minute with ⟨e, he, ho⟩ | ⟨hv, e, he, ho⟩ | ⟨hv, hl, hrd, hmin, ho⟩
  · rw [ho]; exact rfl
  · rw [ho]; exact rfl
  · rw [ho]; exact rfl

end Go.Proofs.Gas

namespace Go.Proofs.Gas
open Go.V Go.Proofs

/-- The last minute before the first one with too much. -/
def untilL (lim : Int) : List (Int × Sp) → Int → Int
  | [], last => last
  | x :: r, last => match decide (x.2.hi > lim) with
    | true => last
    | false => untilL lim r x.1
def Space.untilE (s : Space) (l : List Rd) (minute : Int) : Int × Int := match (s.levelE l minute).2 != 0 with
  | true => (0, (s.levelE l minute).2)
  | false => (untilL s.limit (s.follow (s.seen l) minute (61 - minute).toNat minute (s.levelE l minute).1) (-1), 0)
def intsD (p : Int × Int) : D := .tup [.int .i64 p.1, .int .i64 p.2]

theorem follow_lt {s : Space} {m : Seen} {k n : Int} {l : Sp} {i : Nat} {z : Int × Sp} (h : (s.follow m k (61 - n).toNat n l)[i]? = some z) : z.1 = n + i := follow_fst s m k _ _ _ i z h

theorem levelE_bad {s : Space} {l : List Rd} {minute e : Int} {o : Option Seen} (ho : s.openE l minute = (o, e)) (he : e ≠ 0) : s.levelE l minute = (⟨0, 0⟩, e) := by
  have : (e != 0) = true := by simpa using he
  unfold Space.levelE
  rw [ho]
  simp only [this]
theorem levelE_ok {s : Space} {l : List Rd} {minute : Int} {o : Option Seen} (ho : s.openE l minute = (o, 0)) : s.levelE l minute = if s.at (s.seen l) minute = none' then (⟨0, 0⟩, 9) else (s.at (s.seen l) minute, 0) := by
  unfold Space.levelE
  rw [ho]
  rfl

theorem small_zero : Sp.small ⟨0, 0⟩ := ⟨by decide, by decide⟩

theorem at_small {s : Space} (hs : s.small) {m : Seen} (hm : m.small) (k : Int) : ∀ (f : Nat) (t : Int) (l : Sp), l.small → ∀ z ∈ s.follow m k f t l, z.2.small
  | 0, _, _, _, _, h => by cases h
  | f + 1, t, l, hl, z, h => by
    rw [Space.follow] at h
    rcases List.mem_cons.1 h with rfl | h
    · exact known_small hm hl k t
    · exact at_small hs hm k f (t + 1) _ (later_small (known_small hm hl k t) t) z h

theorem atm_small {s : Space} {m : Seen} (hs : s.small) (hm : m.small) (n : Int) : (s.at m n).small := by
  unfold Space.at
  cases h : (s.follow m n 61 0 s.start)[n.toNat]? with
  | some y => exact at_small hs hm n 61 0 s.start hs.start y (List.mem_of_getElem? h)
  | none => exact ⟨by decide, by decide⟩

theorem levelE_small {s : Space} {l : List Rd} {minute : Int} (hv : s.Valid) : (s.levelE l minute).1.small := by
  have h := atm_small hv.small (reads_small hv l [] nil_small) minute
  unfold Space.levelE
  cases (s.openE l minute).2 != 0 with
  | true => exact small_zero
  | false =>
    by_cases hn : s.at (s.seen l) minute = none'
    · simp only [hn, if_true]; exact small_zero
    · simp only [hn, if_false]; exact h

theorem untilE_bad {s : Space} {l : List Rd} {minute : Int} {v : Sp × Int} (hv : s.levelE l minute = v) (h : v.2 ≠ 0) : s.untilE l minute = (0, v.2) := by
  have : (v.2 != 0) = true := by simpa using h
  unfold Space.untilE
  rw [hv]
  simp only [this]
theorem untilE_ok {s : Space} {l : List Rd} {minute : Int} {v : Sp × Int} (hv : s.levelE l minute = v) (h : v.2 = 0) : s.untilE l minute = (untilL s.limit (s.follow (s.seen l) minute (61 - minute).toNat minute v.1) (-1), 0) := by
  have : (v.2 != 0) = false := by simpa using h
  unfold Space.untilE
  rw [hv]
  simp only [this]

theorem den19 (s : Space) (l : List Rd) (minute : Int) : DN 19 [.agg s.enc, .list 3 (l.map Rd.enc), .int .i64 minute] (intsD (s.untilE l minute)) := by
  refine mk Try.func19 Try.call19 rfl rfl ?_
  refine ⟨_, rfl, _, den48 s l minute, ?_⟩
  obtain ⟨v, hvv⟩ : ∃ v, s.levelE l minute = v := ⟨_, rfl⟩
  have hbad : v.2 ≠ 0 → s.untilE l minute = (0, v.2) := untilE_bad hvv
  rcases openE_inv s l minute with ⟨e, he, ho⟩ | ⟨hv, e, he, ho⟩ | ⟨hv, hl, hrd, hmin, ho⟩
  · have he2 : v.2 ≠ 0 := by
      rw [levelE_bad ho he] at hvv
      rw [← hvv]; exact he
    rw [ho, hvv, hbad he2]
    refine ⟨fun h1 => rfl, fun h1 => absurd (by simpa using h1) he2⟩
  · have he2 : v.2 ≠ 0 := by
      rw [levelE_bad ho he] at hvv
      rw [← hvv]; exact he
    rw [ho, hvv, hbad he2]
    refine ⟨fun h1 => rfl, fun h1 => absurd (by simpa using h1) he2⟩
  · rw [ho, hvv]
    refine ⟨fun h1 => ?_, fun h1 => ?_⟩
    · have he2 : v.2 ≠ 0 := by simpa using h1
      rw [hbad he2]; rfl
    · have h1 : (v.2 != 0) = false := h1
      have hsm : v.1.small := by rw [← hvv]; exact levelE_small hv
      have hu := untilE_ok hvv (by simpa using h1)
      obtain ⟨m, hm0⟩ : ∃ m, s.seen l = m := ⟨_, rfl⟩
      have hm : m.small := by rw [← hm0]; exact reads_small hv l [] nil_small
      rw [hu, hm0]
      obtain ⟨xs, hxs⟩ : ∃ xs, s.follow m minute (61 - minute).toNat minute v.1 = xs := ⟨_, rfl⟩
      have hit := it79 s m hv.small hm minute minute v.1 hsm (by omega)
      rw [hxs] at hit ⊢
      refine ⟨[], [.agg (s.encM m), .int .i64 minute, .agg v.1.enc, .int .i64 minute], [], _, rfl, rfl, rfl, rfl, den51 s m minute minute v.1, ⟨_, _, _, rfl, rfl, rfl⟩, ?_⟩
      rintro _ _ _ ⟨rfl, rfl, rfl⟩
      refine ⟨rfl, 4, [.loc 1 0, .loc 3 0, .loc 2 0, .loc 0 0], bsF s m minute minute v.1, rfl, rfl, rfl, _, hit, [6, 8], 4, [],
        fun i bs y => y = .non ∧ ∃ (last : Int) (lv : Sp), untilL s.limit xs (-1) = untilL s.limit (xs.drop i) last ∧ bs = [.flat false s.enc, .flat false [.int .i64 last], .flat false (s.encM m), .flat false lv.enc], rfl, rfl, ⟨rfl, rfl⟩, ⟨rfl, -1, v.1, rfl, rfl⟩, ?_, ?_, ?_⟩
      · rintro i x bs y hx ⟨rfl, last, lv, hu, rfl⟩
        rw [List.getElem?_map] at hx
        cases hf : xs[i]? with
        | none => rw [hf] at hx; cases hx
        | some z =>
          rw [hf] at hx
          have hx : encX z = x := by simpa using hx
          subst hx
          have hi := (List.getElem?_eq_some_iff.1 hf).1
          have hdrop : xs.drop i = z :: xs.drop (i + 1) := by
            rw [List.drop_eq_getElem_cons hi]
            rw [(List.getElem?_eq_some_iff.1 hf).2]
          rw [hdrop, untilL] at hu
          refine ⟨fun h2 => ?_, fun h2 => ?_⟩
          · have h2 : decide (z.2.hi > s.limit) = true := h2
            rw [h2] at hu
            show some (D.tup [.int .i64 last, .int .i64 0]) = some _
            rw [hu]; rfl
          · have h2 : decide (z.2.hi > s.limit) = false := h2
            rw [h2] at hu
            exact ⟨rfl, rfl, z.1, lv, hu, rfl⟩
      · intro x hx
        obtain ⟨z, _, rfl⟩ := List.mem_map.1 hx
        exact ⟨rfl, rfl⟩
      · rintro bs y ⟨rfl, last, lv, hu, rfl⟩
        rw [List.length_map, List.drop_length] at hu
        show some (D.tup [.int .i64 last, .int .i64 0]) = some _
        rw [hu]; rfl

end Go.Proofs.Gas
