/- The checks of a beach and a ship; tide.Check; The reference's Check; The reference's Check; Small functions of tide and its reference. No condition. -/
import Derived.Test.YtdhdeopenednaaaGreatDoorPackXA

namespace Go.Proofs.Tide
open Go.V Go.Proofs Go.Proofs.Top

structure Bd where
  lo : Int
  hi : Int
  l : Int
  h : Int

def Bd.enc (b : Bd) : List D := [.int .i64 b.lo, .int .i64 b.hi, .int .i64 b.l, .int .i64 b.h]

def Bd.out (b : Bd) : Bool := decide (min b.lo b.hi < b.l) || decide (max b.lo b.hi > b.h)
def Bd.bad (b : Bd) : Bool := decide (b.lo > b.hi)

theorem den105 (b : Bd) : DN 105 [.agg b.enc] (.bool b.out) := by
  refine mk Tryz.func105 Tryz.call105 rfl rfl ?_
  refine ⟨fun h1 => ?_, fun h1 => ?_⟩
  · show some (D.bool _) = some (D.bool _)
    simp [Bd.out, h1]
  · show some (D.bool _) = some (D.bool _)
    simp [Bd.out, h1]

theorem den106 (b : Bd) : DN 106 [.agg b.enc] (.bool b.bad) := by
  refine mk Tryz.func106 Tryz.call106 rfl rfl ?_
  rfl

def findI (p : Bd → Bool) : List Bd → Int → Int
  | [], _ => -1
  | b :: r, i => match p b with | true => i | false => findI p r (i + 1)

theorem den114 {k : Nat} {p : Bd → Bool} (bs : List Bd) (hp : ∀ b ∈ bs, DN k [.agg b.enc] (.bool (p b))) (hl : bs.length < 1000) (hk : k = 105 ∨ k = 106 := by decide) : DN 114 [.list 4 (bs.map Bd.enc), .clo (.func k) [] []] (.int .i64 (findI p bs 0)) := by
  rcases hk with rfl | rfl
  · refine mk Tryz.func114 Tryz.call114 rfl rfl ?_
    refine ⟨[0, 1, 7, 8], 0, [], fun σ => ∃ i : Nat, i ≤ bs.length ∧ findI p bs 0 = findI p (bs.drop i) i ∧ σ = ⟨[(0, .list 4 (bs.map Bd.enc)), (1, .clo (.func 105) [] []), (7, .int .i64 (bs.map Bd.enc).length), (8, .int .i64 i)], [], .non⟩, fun σ => (1000 - slotI 8 σ).toNat, rfl, ⟨rfl, rfl⟩, ⟨0, Nat.zero_le _, rfl, rfl⟩, ?_⟩
    rintro σ ⟨i, hi, hf, rfl⟩
    refine ⟨fun h1 => ?_, fun h1 => ?_⟩
    · have h1 := of_decide_eq_true h1
      rw [List.length_map] at h1
      have hi' : i < bs.length := by omega
      have hrow : (bs.map Bd.enc)[((i : Int)).toNat]? = some (bs[i].enc) := by simp [hi']
      have hdrop : bs.drop i = bs[i] :: bs.drop (i + 1) := List.drop_eq_getElem_cons hi'
      refine ⟨by omega, _, hrow, ?_⟩
      refine ⟨_, rfl, _, hp bs[i] (List.getElem_mem hi'), ?_⟩
      refine ⟨fun h2 => ?_, fun h2 => ?_⟩
      · show some (D.int .i64 (i : Int)) = some (D.int .i64 (findI p bs 0))
        rw [hf, hdrop, findI, h2]
      · refine ⟨_, wrap64 (by omega) (by omega), ?_⟩
        refine ⟨⟨rfl, rfl⟩, ⟨i + 1, hi', ?_, rfl⟩, ?_⟩
        · rw [hf, hdrop, findI, h2]; rfl
        · show (1000 - ((i : Int) + 1)).toNat < (1000 - (i : Int)).toNat
          omega
    · have h1 := of_decide_eq_false h1
      rw [List.length_map] at h1
      show some (D.int .i64 (-1)) = some (D.int .i64 (findI p bs 0))
      rw [hf, List.drop_of_length_le (by omega)]
      rfl
  · refine mk Tryz.func114 Tryz.call114 rfl rfl ?_
    refine ⟨[0, 1, 7, 8], 0, [], fun σ => ∃ i : Nat, i ≤ bs.length ∧ findI p bs 0 = findI p (bs.drop i) i ∧ σ = ⟨[(0, .list 4 (bs.map Bd.enc)), (1, .clo (.func 106) [] []), (7, .int .i64 (bs.map Bd.enc).length), (8, .int .i64 i)], [], .non⟩, fun σ => (1000 - slotI 8 σ).toNat, rfl, ⟨rfl, rfl⟩, ⟨0, Nat.zero_le _, rfl, rfl⟩, ?_⟩
    rintro σ ⟨i, hi, hf, rfl⟩
    refine ⟨fun h1 => ?_, fun h1 => ?_⟩
    · have h1 := of_decide_eq_true h1
      rw [List.length_map] at h1
      have hi' : i < bs.length := by omega
      have hrow : (bs.map Bd.enc)[((i : Int)).toNat]? = some (bs[i].enc) := by simp [hi']
      have hdrop : bs.drop i = bs[i] :: bs.drop (i + 1) := List.drop_eq_getElem_cons hi'
      refine ⟨by omega, _, hrow, ?_⟩
      refine ⟨_, rfl, _, hp bs[i] (List.getElem_mem hi'), ?_⟩
      refine ⟨fun h2 => ?_, fun h2 => ?_⟩
      · show some (D.int .i64 (i : Int)) = some (D.int .i64 (findI p bs 0))
        rw [hf, hdrop, findI, h2]
      · refine ⟨_, wrap64 (by omega) (by omega), ?_⟩
        refine ⟨⟨rfl, rfl⟩, ⟨i + 1, hi', ?_, rfl⟩, ?_⟩
        · rw [hf, hdrop, findI, h2]; rfl
        · show (1000 - ((i : Int) + 1)).toNat < (1000 - (i : Int)).toNat
          omega
    · have h1 := of_decide_eq_false h1
      rw [List.length_map] at h1
      show some (D.int .i64 (-1)) = some (D.int .i64 (findI p bs 0))
      rw [hf, List.drop_of_length_le (by omega)]
      rfl

theorem findI_any (p : Bd → Bool) : ∀ (bs : List Bd) (i : Int), 0 ≤ i → (decide (findI p bs i ≥ 0)) = bs.any p
  | [], i, _ => rfl
  | b :: r, i, hi => by
    cases hb : p b with
    | true => simp [findI, hb, hi]
    | false =>
      have := findI_any p r (i + 1) (by omega)
      simp only [findI, hb, List.any_cons, Bool.false_or]
      exact this

theorem den104 {k : Nat} {p : Bd → Bool} (bs : List Bd) (hp : ∀ b ∈ bs, DN k [.agg b.enc] (.bool (p b))) (hl : bs.length < 1000) (hk : k = 105 ∨ k = 106 := by decide) : DN 104 [.list 4 (bs.map Bd.enc), .clo (.func k) [] []] (.bool (bs.any p)) := by
  rcases hk with rfl | rfl
  · refine mk Tryz.func104 Tryz.call104 rfl rfl ?_
    refine ⟨_, rfl, _, den114 bs hp hl, ?_⟩
    show some (D.bool _) = some (D.bool _)
    rw [← findI_any p bs 0 (Int.le_refl 0)]
  · refine mk Tryz.func104 Tryz.call104 rfl rfl ?_
    refine ⟨_, rfl, _, den114 bs hp hl, ?_⟩
    show some (D.bool _) = some (D.bool _)
    rw [← findI_any p bs 0 (Int.le_refl 0)]

/-- The error of some spans: 7 is ErrRange, 2 is ErrArg. -/
def strangeE (bs : List Bd) : Int := match bs.any Bd.out with | true => 7 | false => match bs.any Bd.bad with | true => 2 | false => 0

theorem den92 (bs : List Bd) (hl : bs.length < 1000) : DN 92 [.list 4 (bs.map Bd.enc)] (.int .i64 (strangeE bs)) := by
  refine mk Tryz.func92 Tryz.call92 rfl rfl ?_
  refine ⟨_, rfl, _, den104 bs (fun b _ => den105 b) hl, ?_⟩
  refine ⟨fun h1 => ?_, fun h1 => ?_⟩
  · show some (D.int .i64 7) = some (D.int .i64 (strangeE bs))
    unfold strangeE; rw [h1]
  · refine ⟨_, rfl, _, den104 bs (fun b _ => den106 b) hl, ?_⟩
    refine ⟨fun h2 => ?_, fun h2 => ?_⟩
    · show some (D.int .i64 2) = some (D.int .i64 (strangeE bs))
      unfold strangeE; rw [h1, h2]
    · show some (D.int .i64 0) = some (D.int .i64 (strangeE bs))
      unfold strangeE; rw [h1, h2]

theorem den70 (n : Int) : DN 70 [.int .i64 n] (.agg [.int .i64 n, .int .i64 n]) := mk Tryz.func70 Tryz.call70 rfl rfl rfl

end Go.Proofs.Tide

namespace Go.Proofs.Tide
open Go.V Go.Proofs Go.Proofs.Top

structure Sp where
  lo : Int
  hi : Int
structure Ti where
  day : Int
  height : Sp
  wind : Sp
structure Be where
  slope : Sp
  marks : Sp
  bite : Int
  tides : List Ti
structure Sh where
  draft : Sp
  sink : Int

def Sp.enc (s : Sp) : List D := [.int .i64 s.lo, .int .i64 s.hi]
def Ti.enc (t : Ti) : List D := [.int .i64 t.day, .int .i64 t.height.lo, .int .i64 t.height.hi, .int .i64 t.wind.lo, .int .i64 t.wind.hi]
def Be.enc (b : Be) : List D := [.int .i64 b.slope.lo, .int .i64 b.slope.hi, .int .i64 b.marks.lo, .int .i64 b.marks.hi, .int .i64 b.bite, .list 5 (b.tides.map Ti.enc)]
def Sh.enc (s : Sh) : List D := [.int .i64 s.draft.lo, .int .i64 s.draft.hi, .int .i64 s.sink]

def Sp.bd (s : Sp) (l h : Int) : Bd := ⟨s.lo, s.hi, l, h⟩

def err1 (b : Be) : Int := strangeE [b.slope.bd 1 200, b.marks.bd (-2000000) 2000000, ⟨b.bite, b.bite, 0, 200⟩]
def err3 (s : Sh) : Int := strangeE [s.draft.bd 0 1500, ⟨s.sink, s.sink, 0, 50⟩]
def errT (t : Ti) : Int := strangeE [⟨t.day, t.day, 0, 40000⟩, t.height.bd 0 1500, t.wind.bd (-200) 200]
def dayAt (l : List Ti) (i : Nat) : Int := match l[i]? with | some t => t.day | none => 0
/-- The error of the i-th tide. -/
def errAt (l : List Ti) (i : Nat) : Int :=
  match l[i]? with
  | none => 0
  | some t => if errT t = 0 then (if 0 < i ∧ t.day < dayAt l (i - 1) then 2 else 0) else errT t
def badFrom (l : List Ti) : Nat → Nat → Option (Nat × Int)
  | 0, _ => none
  | n + 1, i => if errAt l i = 0 then badFrom l n (i + 1) else some (i, errAt l i)
/-- What Check returns. -/
def checkR (b : Be) (s : Sh) : Int × Int × Int :=
  if err1 b ≠ 0 then (1, 0, err1 b)
  else if (b.tides.length : Int) < 1 ∨ (b.tides.length : Int) > 12 then (2, 0, 3)
  else match badFrom b.tides b.tides.length 0 with
    | some (i, e) => (2, i, e)
    | none => if err3 s ≠ 0 then (3, 0, err3 s) else (0, 0, 0)
def trip (x : Int × Int × Int) : D := .tup [.int .i64 x.1, .int .i64 x.2.1, .int .i64 x.2.2]

theorem badFrom_step {l : List Ti} {i : Nat} (hi : i < l.length) : badFrom l (l.length - i) i = if errAt l i = 0 then badFrom l (l.length - (i + 1)) (i + 1) else some (i, errAt l i) := by
  rw [show l.length - i = (l.length - (i + 1)) + 1 by omega]
  rfl

theorem den76 (b : Be) (s : Sh) : DN 76 [.agg b.enc, .agg s.enc] (trip (checkR b s)) := by
  refine mk Tryz.func76 Tryz.call76 rfl rfl ?_
  refine Or.inl ⟨by kernel_rfl, ?_⟩
  refine ⟨_, rfl, _, den70 _, ?_⟩
  refine ⟨_, rfl, _, den92 [b.slope.bd 1 200, b.marks.bd (-2000000) 2000000, ⟨b.bite, b.bite, 0, 200⟩] (by simp), ?_⟩
  refine ⟨fun h1 => ?_, fun h1 => ?_⟩
  · show some (trip (1, 0, err1 b)) = some (trip _)
    have h1 : (err1 b != 0) = true := h1
    have h1 : err1 b ≠ 0 := by simpa using h1
    unfold checkR; rw [if_pos h1]
  have h1 : ¬ err1 b ≠ 0 := by
    have : (err1 b != 0) = false := h1
    simpa using this
  refine ⟨fun h2 => ?_, fun h2 => ?_⟩
  · have h2 := of_decide_eq_true h2
    rw [List.length_map] at h2
    show some (trip (2, 0, 3)) = some (trip _)
    unfold checkR; rw [if_neg h1, if_pos (.inl h2)]
  have h2 := of_decide_eq_false h2
  rw [List.length_map] at h2
  refine ⟨fun h3 => ?_, fun h3 => ?_⟩
  · have h3 := of_decide_eq_true h3
    rw [List.length_map] at h3
    show some (trip (2, 0, 3)) = some (trip _)
    unfold checkR; rw [if_neg h1, if_pos (.inr h3)]
  have h3 := of_decide_eq_false h3
  rw [List.length_map] at h3
  have h23 : ¬ ((b.tides.length : Int) < 1 ∨ (b.tides.length : Int) > 12) := fun h => h.elim h2 h3
  refine ⟨[2, 3, 35, 36, 37], 2, [], fun σ => ∃ i : Nat, i ≤ b.tides.length ∧ badFrom b.tides b.tides.length 0 = badFrom b.tides (b.tides.length - i) i ∧
    σ = ⟨[(2, .loc 0 0), (3, .loc 1 0), (35, .list 5 (b.tides.map Ti.enc)), (36, .int .i64 (b.tides.map Ti.enc).length), (37, .int .i64 i)], [.flat false b.enc, .flat false s.enc], .non⟩, fun σ => (1000 - slotI 37 σ).toNat, rfl, ⟨rfl, rfl⟩, ⟨0, Nat.zero_le _, rfl, rfl⟩, ?_⟩
  rintro σ ⟨i, hi, hf, rfl⟩
  refine ⟨fun h4 => ?_, fun h4 => ?_⟩
  · have h4 := of_decide_eq_true h4
    rw [List.length_map] at h4
    have hi' : i < b.tides.length := by omega
    have hrow : (b.tides.map Ti.enc)[((i : Int)).toNat]? = some (b.tides[i].enc) := by simp [hi']
    rw [badFrom_step hi'] at hf
    refine ⟨by omega, _, hrow, ?_⟩
    refine Or.inl ⟨by kernel_rfl, ?_⟩
    refine ⟨_, rfl, _, den70 _, ?_⟩
    refine ⟨_, rfl, _, den92 [⟨b.tides[i].day, b.tides[i].day, 0, 40000⟩, b.tides[i].height.bd 0 1500, b.tides[i].wind.bd (-200) 200] (by simp), ?_⟩
    refine Or.inl ⟨by kernel_rfl, ?_⟩
    have hat : b.tides[i]? = some b.tides[i] := List.getElem?_eq_getElem hi'
    -- how a round ends
    have fin0 : errAt b.tides i = 0 → ∃ j : Nat, j ≤ b.tides.length ∧ badFrom b.tides b.tides.length 0 = badFrom b.tides (b.tides.length - j) j ∧ j = i + 1 := fun h => ⟨i + 1, hi', by rw [hf, if_pos h], rfl⟩
    have finE : errAt b.tides i ≠ 0 → checkR b s = (2, (i : Int), errAt b.tides i) := fun h => by
      unfold checkR; rw [if_neg h1, if_neg h23, hf, if_neg h]
    refine ⟨fun h5 => ?_, fun h5 => ?_⟩
    · have h5 : (errT b.tides[i] == 0) = true := h5
      have h5 : errT b.tides[i] = 0 := by simpa using h5
      refine ⟨fun h6 => ?_, fun h6 => ?_⟩
      · have h6 := of_decide_eq_true h6
        have hi0 : 0 < i := by omega
        have hi1 : i - 1 < b.tides.length := by omega
        have hrow1 : (b.tides.map Ti.enc)[((i : Int) - 1).toNat]? = some (b.tides[i - 1].enc) := by
          rw [show ((i : Int) - 1).toNat = i - 1 by omega]; simp [hi1]
        refine ⟨_, wrap64 (by omega) (by omega), ?_⟩
        refine ⟨by omega, _, hrow1, ?_⟩
        have hday : dayAt b.tides (i - 1) = b.tides[i - 1].day := by simp [dayAt, hi1]
        refine ⟨fun h7 => ?_, fun h7 => ?_⟩
        · have h7 := of_decide_eq_true h7
          have he : errAt b.tides i = 2 := by
            unfold errAt; rw [hat]; simp only; rw [if_pos h5, if_pos ⟨hi0, by rw [hday]; exact h7⟩]
          refine ⟨fun _ => ?_, fun h8 => ?_⟩
          · show some (trip (2, i, 2)) = some (trip _)
            rw [finE (by rw [he]; decide), he]
          · exact absurd h8 (by decide)
        · have h7 := of_decide_eq_false h7
          have he : errAt b.tides i = 0 := by
            unfold errAt; rw [hat]; simp only; rw [if_pos h5, if_neg (fun h => h7 (by rw [← hday]; exact h.2))]
          refine ⟨fun h8 => ?_, fun _ => ?_⟩
          · have h8 : (errT b.tides[i] != 0) = true := h8
            rw [h5] at h8; exact absurd h8 (by decide)
          refine ⟨_, wrap64 (by omega) (by omega), ?_⟩
          obtain ⟨j, hj, hfj, rfl⟩ := fin0 he
          refine ⟨⟨rfl, rfl⟩, ⟨i + 1, hj, hfj, rfl⟩, ?_⟩
          show (1000 - ((i : Int) + 1)).toNat < (1000 - (i : Int)).toNat
          omega
      · have h6 := of_decide_eq_false h6
        have he : errAt b.tides i = 0 := by
          unfold errAt; rw [hat]; simp only; rw [if_pos h5, if_neg (fun h => h6 (by omega))]
        refine ⟨fun h8 => ?_, fun _ => ?_⟩
        · have h8 : (errT b.tides[i] != 0) = true := h8
          rw [h5] at h8; exact absurd h8 (by decide)
        refine ⟨_, wrap64 (by omega) (by omega), ?_⟩
        obtain ⟨j, hj, hfj, rfl⟩ := fin0 he
        refine ⟨⟨rfl, rfl⟩, ⟨i + 1, hj, hfj, rfl⟩, ?_⟩
        show (1000 - ((i : Int) + 1)).toNat < (1000 - (i : Int)).toNat
        omega
    · have h5 : (errT b.tides[i] == 0) = false := h5
      have h5 : errT b.tides[i] ≠ 0 := by simpa using h5
      have he : errAt b.tides i = errT b.tides[i] := by
        unfold errAt; rw [hat]; simp only; rw [if_neg h5]
      refine ⟨fun _ => ?_, fun h8 => ?_⟩
      · show some (trip (2, i, errT b.tides[i])) = some (trip _)
        rw [finE (by rw [he]; exact h5), he]
      · have h8 : (errT b.tides[i] != 0) = false := h8
        exact absurd (by simpa using h8) h5
  · have h4 := of_decide_eq_false h4
    rw [List.length_map] at h4
    have hil : i = b.tides.length := by omega
    subst hil
    have hnone : badFrom b.tides b.tides.length 0 = none := by rw [hf, Nat.sub_self]; rfl
    refine Or.inl ⟨by kernel_rfl, ?_⟩
    refine ⟨_, rfl, _, den70 _, ?_⟩
    refine ⟨_, rfl, _, den92 [s.draft.bd 0 1500, ⟨s.sink, s.sink, 0, 50⟩] (by simp), ?_⟩
    refine ⟨fun h5 => ?_, fun h5 => ?_⟩
    · have h5 : (err3 s != 0) = true := h5
      have h5 : err3 s ≠ 0 := by simpa using h5
      show some (trip (3, 0, err3 s)) = some (trip _)
      unfold checkR; rw [if_neg h1, if_neg h23, hnone]; simp only; rw [if_pos h5]
    · have h5 : (err3 s != 0) = false := h5
      have h5 : ¬ err3 s ≠ 0 := by simpa using h5
      show some (trip (0, 0, 0)) = some (trip _)
      unfold checkR; rw [if_neg h1, if_neg h23, hnone]; simp only; rw [if_neg h5]

end Go.Proofs.Tide

namespace Go.Proofs.Tide
open Go.V Go.Proofs Go.Proofs.Top

theorem den84 (n l h : Int) : DN 84 [.int .i64 n, .int .i64 l, .int .i64 h] (.bool (decide (l ≤ n) && decide (n ≤ h))) := by
  refine mk Tryz.func84 Tryz.call84 rfl rfl ?_
  refine ⟨fun h1 => ?_, fun h1 => ?_⟩
  · show some (D.bool _) = some (D.bool _)
    rw [h1]; rfl
  · show some (D.bool _) = some (D.bool _)
    rw [h1]; rfl

theorem den22 (n l h : Int) : DN 22 [.int .i64 n, .int .i64 l, .int .i64 h] (.bool (decide (n ≥ l) && decide (n ≤ h))) := by
  refine mk Tryz.func22 Tryz.call22 rfl rfl ?_
  refine ⟨fun h1 => ?_, fun h1 => ?_⟩
  · show some (D.bool _) = some (D.bool _)
    rw [h1]; rfl
  · show some (D.bool _) = some (D.bool _)
    rw [h1]; rfl

/-- The error of one span. -/
def bdE (b : Bd) : Int := match b.out with | true => 7 | false => match b.bad with | true => 2 | false => 0

theorem den21 (n l h : Int) : DN 21 [.int .i64 n, .int .i64 l, .int .i64 h] (.int .i64 (bdE ⟨n, n, l, h⟩)) := by
  refine mk Tryz.func21 Tryz.call21 rfl rfl ?_
  refine ⟨_, rfl, _, den22 n l h, ?_⟩
  have e : (⟨n, n, l, h⟩ : Bd).out = !(decide (n ≥ l) && decide (n ≤ h)) := by
    unfold Bd.out
    rw [Bool.eq_iff_iff]
    simp
  refine ⟨fun h1 => ?_, fun h1 => ?_⟩
  · show some (D.int .i64 7) = some (D.int .i64 _)
    unfold bdE
    rw [e, h1]
  · show some (D.int .i64 0) = some (D.int .i64 _)
    unfold bdE
    rw [e, h1]
    simp [Bd.bad]

theorem den64 (b : Bd) : DN 64 [.list 2 [[.int .i64 b.lo, .int .i64 b.hi]], .int .i64 b.l, .int .i64 b.h] (.int .i64 (bdE b)) := by
  refine mk Tryz.func64 Tryz.call64 rfl rfl ?_
  have e : b.out = (!(decide (b.l ≤ b.lo) && decide (b.lo ≤ b.h)) || !(decide (b.l ≤ b.hi) && decide (b.hi ≤ b.h))) := by
    unfold Bd.out
    rw [Bool.eq_iff_iff]
    simp
    omega
  refine ⟨[0, 1, 2, 7, 8], 0, [], fun σ => (σ = ⟨[(0, .list 2 [[.int .i64 b.lo, .int .i64 b.hi]]), (1, .int .i64 b.l), (2, .int .i64 b.h), (7, .ff), (8, .int .i64 0)], [], .non⟩) ∨
    (b.out = false ∧ σ = ⟨[(0, .list 2 [[.int .i64 b.lo, .int .i64 b.hi]]), (1, .int .i64 b.l), (2, .int .i64 b.h), (7, .bool b.bad), (8, .int .i64 1)], [], .non⟩), fun σ => (1 - slotI 8 σ).toNat, rfl, ⟨rfl, rfl⟩, .inl rfl, ?_⟩
  rintro σ (rfl | ⟨ho, rfl⟩)
  · refine ⟨fun _ => ?_, fun h1 => absurd (show true = false from h1) (by decide)⟩
    refine ⟨by decide, _, rfl, ?_⟩
    refine ⟨_, rfl, _, den84 _ _ _, ?_⟩
    refine ⟨fun h1 => ?_, fun h1 => ?_⟩
    · show some (D.int .i64 7) = some (D.int .i64 _)
      unfold bdE; rw [e, h1]; rfl
    refine ⟨by decide, _, rfl, ?_⟩
    refine ⟨_, rfl, _, den84 _ _ _, ?_⟩
    refine ⟨fun h2 => ?_, fun h2 => ?_⟩
    · show some (D.int .i64 7) = some (D.int .i64 _)
      unfold bdE; rw [e, h1, h2]; rfl
    refine Or.inl ⟨by kernel_rfl, ?_⟩
    refine ⟨by decide, _, rfl, ?_⟩
    refine ⟨by decide, _, rfl, ?_⟩
    refine ⟨_, wrap64 (by decide) (by decide), ?_⟩
    refine ⟨⟨rfl, rfl⟩, .inr ⟨by rw [e, h1, h2]; rfl, rfl⟩, ?_⟩
    show (1 - 1 : Int).toNat < (1 - 0 : Int).toNat
    decide
  · refine ⟨fun h1 => absurd (show false = true from h1) (by decide), fun _ => ?_⟩
    refine ⟨fun h1 => ?_, fun h1 => ?_⟩
    · show some (D.int .i64 2) = some (D.int .i64 _)
      unfold bdE; rw [ho, h1]
    · show some (D.int .i64 0) = some (D.int .i64 _)
      unfold bdE; rw [ho, h1]

theorem den20 (b : Bd) : DN 20 [.agg [.int .i64 b.lo, .int .i64 b.hi], .int .i64 b.l, .int .i64 b.h] (.int .i64 (bdE b)) := by
  refine mk Tryz.func20 Tryz.call20 rfl rfl ?_
  refine ⟨_, rfl, _, den64 b, ?_⟩
  rfl

/-- ErrRange if one is, else ErrArg if one is. -/
def worstF : List Int → Int → Int
  | [], out => out
  | e :: r, out => worstF r (if e = 7 ∨ (e = 2 ∧ out = 0) then e else out)

theorem den19 (es : List Int) (hl : es.length < 1000) : DN 19 [.list 1 (es.map fun e => [D.int .i64 e])] (.int .i64 (worstF es 0)) := by
  refine mk Tryz.func19 Tryz.call19 rfl rfl ?_
  refine ⟨[0, 3, 4], 0, [], fun σ => ∃ (i : Nat) (out : Int), i ≤ es.length ∧ worstF es 0 = worstF (es.drop i) out ∧ σ = ⟨[(0, .list 1 (es.map fun e => [D.int .i64 e])), (3, .int .i64 out), (4, .int .i64 i)], [], .non⟩, fun σ => (1000 - slotI 4 σ).toNat, rfl, ⟨rfl, rfl⟩, ⟨0, 0, Nat.zero_le _, rfl, rfl⟩, ?_⟩
  rintro σ ⟨i, out, hi, hf, rfl⟩
  refine ⟨fun h1 => ?_, fun h1 => ?_⟩
  · have h1 := of_decide_eq_true h1
    rw [List.length_map] at h1
    have hi' : i < es.length := by omega
    have hrow : (es.map fun e => [D.int .i64 e])[((i : Int)).toNat]? = some [D.int .i64 es[i]] := by simp [hi']
    have hdrop : es.drop i = es[i] :: es.drop (i + 1) := List.drop_eq_getElem_cons hi'
    rw [hdrop, worstF] at hf
    refine ⟨by omega, _, hrow, ?_⟩
    refine ⟨fun h2 => ?_, fun h2 => ?_⟩
    · have h2 : es[i] = 7 := by simpa using h2
      rw [if_pos (.inl h2)] at hf
      refine ⟨by omega, _, hrow, ?_⟩
      refine ⟨_, wrap64 (by omega) (by omega), ?_⟩
      refine ⟨⟨rfl, rfl⟩, ⟨i + 1, es[i], hi', hf, rfl⟩, ?_⟩
      show (1000 - ((i : Int) + 1)).toNat < (1000 - (i : Int)).toNat
      omega
    have h2 : es[i] ≠ 7 := by simpa using h2
    refine ⟨by omega, _, hrow, ?_⟩
    refine ⟨fun h3 => ?_, fun h3 => ?_⟩
    · have h3 : es[i] = 2 := by simpa using h3
      refine ⟨fun h4 => ?_, fun h4 => ?_⟩
      · have h4 : out = 0 := by simpa using h4
        rw [if_pos (.inr ⟨h3, h4⟩)] at hf
        refine ⟨by omega, _, hrow, ?_⟩
        refine ⟨_, wrap64 (by omega) (by omega), ?_⟩
        refine ⟨⟨rfl, rfl⟩, ⟨i + 1, es[i], hi', hf, rfl⟩, ?_⟩
        show (1000 - ((i : Int) + 1)).toNat < (1000 - (i : Int)).toNat
        omega
      · have h4 : out ≠ 0 := by simpa using h4
        rw [if_neg (by rintro (h | h); exact h2 h; exact h4 h.2)] at hf
        refine ⟨_, wrap64 (by omega) (by omega), ?_⟩
        refine ⟨⟨rfl, rfl⟩, ⟨i + 1, out, hi', hf, rfl⟩, ?_⟩
        show (1000 - ((i : Int) + 1)).toNat < (1000 - (i : Int)).toNat
        omega
    · have h3 : es[i] ≠ 2 := by simpa using h3
      rw [if_neg (by rintro (h | h); exact h2 h; exact h3 h.1)] at hf
      refine ⟨_, wrap64 (by omega) (by omega), ?_⟩
      refine ⟨⟨rfl, rfl⟩, ⟨i + 1, out, hi', hf, rfl⟩, ?_⟩
      show (1000 - ((i : Int) + 1)).toNat < (1000 - (i : Int)).toNat
      omega
  · have h1 := of_decide_eq_false h1
    rw [List.length_map] at h1
    show some (D.int .i64 out) = some (D.int .i64 (worstF es 0))
    rw [hf, List.drop_of_length_le (by omega)]
    rfl

theorem bdE_cases (b : Bd) : bdE b = 7 ∧ b.out = true ∨ bdE b = 2 ∧ b.out = false ∧ b.bad = true ∨ bdE b = 0 ∧ b.out = false ∧ b.bad = false := by
  unfold bdE
  cases b.out <;> cases b.bad <;> simp

theorem worst_strange (bs : List Bd) : worstF (bs.map bdE) 0 = strangeE bs := by
  have main : ∀ (bs : List Bd) (out : Int), (out = 0 ∨ out = 2 ∨ out = 7) → worstF (bs.map bdE) out = (match bs.any Bd.out with | true => 7 | false => if out = 0 then (match bs.any Bd.bad with | true => 2 | false => 0) else out) := by
    intro bs
    induction bs with
    | nil => intro out ho; rcases ho with rfl | rfl | rfl <;> rfl
    | cons b r ih =>
      intro out ho
      simp only [List.map_cons, worstF, List.any_cons]
      rcases bdE_cases b with ⟨h1, h2⟩ | ⟨h1, h2, h3⟩ | ⟨h1, h2, h3⟩
      · rw [h1, h2, if_pos (.inl rfl), ih 7 (by omega)]
        cases r.any Bd.out <;> simp
      · rw [h1, h2, h3]
        rcases ho with rfl | rfl | rfl
        · rw [if_pos (.inr ⟨rfl, rfl⟩), ih 2 (by omega)]; cases r.any Bd.out <;> simp
        · rw [if_neg (by omega), ih 2 (by omega)]; simp
        · rw [if_neg (by omega), ih 7 (by omega)]; simp
      · rw [h1, h2, h3, if_neg (by omega), ih out ho]; simp
  rw [main bs 0 (by omega)]
  rfl

end Go.Proofs.Tide

namespace Go.Proofs.Tide
open Go.V Go.Proofs Go.Proofs.Top

theorem den19' (bs : List Bd) (hl : bs.length < 1000) : DN 19 [.list 1 (bs.map fun b => [D.int .i64 (bdE b)])] (.int .i64 (strangeE bs)) := by
  have := den19 (bs.map bdE) (by simpa using hl)
  rw [worst_strange] at this
  rw [List.map_map] at this
  exact this

theorem den23 (l : List Ti) (i : Nat) (hi' : i < l.length) (hl : l.length < 1000) : DN 23 [.list 5 (l.map Ti.enc), .int .i64 i] (.int .i64 (errAt l i)) := by
  refine mk Tryz.func23 Tryz.call23 rfl rfl ?_
  have hrow : (l.map Ti.enc)[((i : Int)).toNat]? = some (l[i].enc) := by simp [hi']
  have hat : l[i]? = some l[i] := List.getElem?_eq_getElem hi'
  refine Or.inl ⟨by kernel_rfl, ?_⟩
  refine ⟨by omega, _, hrow, ?_⟩
  refine ⟨_, rfl, _, den21 _ _ _, ?_⟩
  refine ⟨by omega, _, hrow, ?_⟩
  refine ⟨_, rfl, _, den20 (l[i].height.bd 0 1500), ?_⟩
  refine ⟨by omega, _, hrow, ?_⟩
  refine ⟨_, rfl, _, den20 (l[i].wind.bd (-200) 200), ?_⟩
  refine ⟨_, rfl, _, den19' [⟨l[i].day, l[i].day, 0, 40000⟩, l[i].height.bd 0 1500, l[i].wind.bd (-200) 200] (by simp), ?_⟩
  refine Or.inl ⟨by kernel_rfl, ?_⟩
  refine ⟨fun h5 => ?_, fun h5 => ?_⟩
  · have h5 : (errT l[i] == 0) = true := h5
    have h5 : errT l[i] = 0 := by simpa using h5
    refine ⟨fun h6 => ?_, fun h6 => ?_⟩
    · have h6 := of_decide_eq_true h6
      have hi0 : 0 < i := by omega
      have hi1 : i - 1 < l.length := by omega
      have hrow1 : (l.map Ti.enc)[((i : Int) - 1).toNat]? = some (l[i - 1].enc) := by
        rw [show ((i : Int) - 1).toNat = i - 1 by omega]; simp [hi1]
      refine ⟨by omega, _, hrow, ?_⟩
      refine ⟨_, wrap64 (by omega) (by omega), ?_⟩
      refine ⟨by omega, _, hrow1, ?_⟩
      have hday : dayAt l (i - 1) = l[i - 1].day := by simp [dayAt, hi1]
      refine ⟨fun h7 => ?_, fun h7 => ?_⟩
      · have h7 := of_decide_eq_true h7
        show some (D.int .i64 2) = some (D.int .i64 _)
        unfold errAt; rw [hat]; simp only; rw [if_pos h5, if_pos ⟨hi0, by rw [hday]; exact h7⟩]
      · have h7 := of_decide_eq_false h7
        show some (D.int .i64 (errT l[i])) = some (D.int .i64 _)
        unfold errAt; rw [hat]; simp only; rw [if_pos h5, if_neg (fun h => h7 (by rw [← hday]; exact h.2)), h5]
    · have h6 := of_decide_eq_false h6
      show some (D.int .i64 (errT l[i])) = some (D.int .i64 _)
      unfold errAt; rw [hat]; simp only; rw [if_pos h5, if_neg (fun h => h6 (by omega)), h5]
  · have h5 : (errT l[i] == 0) = false := h5
    have h5 : errT l[i] ≠ 0 := by simpa using h5
    show some (D.int .i64 (errT l[i])) = some (D.int .i64 _)
    unfold errAt; rw [hat]; simp only; rw [if_neg h5]

theorem den4 (b : Be) (s : Sh) : DN 4 [.agg b.enc, .agg s.enc] (trip (checkR b s)) := by
  refine mk Tryz.func4 Tryz.call4 rfl rfl ?_
  refine Or.inl ⟨by kernel_rfl, ?_⟩
  refine ⟨_, rfl, _, den20 (b.slope.bd 1 200), ?_⟩
  refine ⟨_, rfl, _, den20 (b.marks.bd (-2000000) 2000000), ?_⟩
  refine ⟨_, rfl, _, den21 _ _ _, ?_⟩
  refine ⟨_, rfl, _, den19' [b.slope.bd 1 200, b.marks.bd (-2000000) 2000000, ⟨b.bite, b.bite, 0, 200⟩] (by simp), ?_⟩
  refine ⟨fun h1 => ?_, fun h1 => ?_⟩
  · show some (trip (1, 0, err1 b)) = some (trip _)
    have h1 : (err1 b != 0) = true := h1
    have h1 : err1 b ≠ 0 := by simpa using h1
    unfold checkR; rw [if_pos h1]
  have h1 : ¬ err1 b ≠ 0 := by
    have : (err1 b != 0) = false := h1
    simpa using this
  refine ⟨_, rfl, _, den22 _ _ _, ?_⟩
  rw [List.length_map]
  refine ⟨fun h2 => ?_, fun h2 => ?_⟩
  · show some (trip (2, 0, 3)) = some (trip _)
    have h2 : (b.tides.length : Int) < 1 ∨ (b.tides.length : Int) > 12 := by simp at h2; omega
    unfold checkR; rw [if_neg h1, if_pos h2]
  have h23 : ¬ ((b.tides.length : Int) < 1 ∨ (b.tides.length : Int) > 12) := by simp at h2; omega
  refine ⟨[2, 3, 8], 2, [], fun σ => ∃ i : Nat, i ≤ b.tides.length ∧ badFrom b.tides b.tides.length 0 = badFrom b.tides (b.tides.length - i) i ∧
    σ = ⟨[(2, .loc 0 0), (3, .loc 1 0), (8, .int .i64 i)], [.flat false b.enc, .flat false s.enc], .non⟩, fun σ => (1000 - slotI 8 σ).toNat, rfl, ⟨rfl, rfl⟩, ⟨0, Nat.zero_le _, rfl, rfl⟩, ?_⟩
  rintro σ ⟨i, hi, hf, rfl⟩
  refine ⟨fun h4 => ?_, fun h4 => ?_⟩
  · have h4 := of_decide_eq_true h4
    rw [List.length_map] at h4
    have hi' : i < b.tides.length := by omega
    rw [badFrom_step hi'] at hf
    refine ⟨_, rfl, _, den23 b.tides i hi' (by omega), ?_⟩
    refine ⟨fun h5 => ?_, fun h5 => ?_⟩
    · have h5 : errAt b.tides i ≠ 0 := by simpa using h5
      show some (trip (2, i, errAt b.tides i)) = some (trip _)
      unfold checkR; rw [if_neg h1, if_neg h23, hf, if_neg h5]
    · have h5 : errAt b.tides i = 0 := by simpa using h5
      rw [if_pos h5] at hf
      refine ⟨_, wrap64 (by omega) (by omega), ?_⟩
      refine ⟨⟨rfl, rfl⟩, ⟨i + 1, hi', hf, rfl⟩, ?_⟩
      show (1000 - ((i : Int) + 1)).toNat < (1000 - (i : Int)).toNat
      omega
  · have h4 := of_decide_eq_false h4
    rw [List.length_map] at h4
    have hil : i = b.tides.length := by omega
    subst hil
    have hnone : badFrom b.tides b.tides.length 0 = none := by rw [hf, Nat.sub_self]; rfl
    refine Or.inl ⟨by kernel_rfl, ?_⟩
    refine ⟨_, rfl, _, den20 (s.draft.bd 0 1500), ?_⟩
    refine ⟨_, rfl, _, den21 _ _ _, ?_⟩
    refine ⟨_, rfl, _, den19' [s.draft.bd 0 1500, ⟨s.sink, s.sink, 0, 50⟩] (by simp), ?_⟩
    refine ⟨fun h5 => ?_, fun h5 => ?_⟩
    · have h5 : (err3 s != 0) = true := h5
      have h5 : err3 s ≠ 0 := by simpa using h5
      show some (trip (3, 0, err3 s)) = some (trip _)
      unfold checkR; rw [if_neg h1, if_neg h23, hnone]; simp only; rw [if_pos h5]
    · have h5 : (err3 s != 0) = false := h5
      have h5 : ¬ err3 s ≠ 0 := by simpa using h5
      show some (trip (0, 0, 0)) = some (trip _)
      unfold checkR; rw [if_neg h1, if_neg h23, hnone]; simp only; rw [if_neg h5]

end Go.Proofs.Tide

namespace Go.Proofs.Tide
open Go.V Go.Proofs Go.Proofs.Top

/-- The error of a tide and ballast. -/
def errTB (b : Be) (tide ballast : Int) : Int :=
  if tide < 0 ∨ tide ≥ b.tides.length then 4 else if ballast < 0 ∨ ballast > 40 then 7 else 0

theorem den71 (b : Be) (s : Sh) (t n : Int) : DN 71 [.agg (b.enc ++ s.enc), .int .i64 t, .int .i64 n] (.int .i64 (errTB b t n)) := by
  refine mk Tryz.func71 Tryz.call71 rfl rfl ?_
  have inner : ∀ r : Int, ((n < 0 ∨ n > 40) → r = 7) → (¬ (n < 0 ∨ n > 40) → r = 0) → r = (if n < 0 ∨ n > 40 then 7 else 0) := by
    intro r h1 h2
    by_cases h : n < 0 ∨ n > 40
    · rw [if_pos h, h1 h]
    · rw [if_neg h, h2 h]
  refine ⟨fun h1 => ?_, fun h1 => ?_⟩
  · have h1 := of_decide_eq_true h1
    show some (D.int .i64 4) = some (D.int .i64 _)
    unfold errTB; rw [if_pos (.inl h1)]
  have h1 := of_decide_eq_false h1
  refine ⟨fun h2 => ?_, fun h2 => ?_⟩
  · have h2 := of_decide_eq_true h2
    rw [List.length_map] at h2
    show some (D.int .i64 4) = some (D.int .i64 _)
    unfold errTB; rw [if_pos (.inr h2)]
  have h2 := of_decide_eq_false h2
  rw [List.length_map] at h2
  have h12 : ¬ (t < 0 ∨ t ≥ b.tides.length) := fun h => h.elim h1 h2
  refine ⟨fun h3 => ?_, fun h3 => ?_⟩
  · have h3 := of_decide_eq_true h3
    show some (D.int .i64 7) = some (D.int .i64 _)
    unfold errTB; rw [if_neg h12, if_pos (.inl h3)]
  have h3 := of_decide_eq_false h3
  refine ⟨fun h4 => ?_, fun h4 => ?_⟩
  · have h4 := of_decide_eq_true h4
    show some (D.int .i64 7) = some (D.int .i64 _)
    unfold errTB; rw [if_neg h12, if_pos (.inr h4)]
  · have h4 := of_decide_eq_false h4
    show some (D.int .i64 0) = some (D.int .i64 _)
    unfold errTB; rw [if_neg h12, if_neg (fun h => h.elim h3 h4)]

/-- The error of a beach, a ship, a tide and ballast. -/
def stepE (b : Be) (s : Sh) (t n : Int) : Int := if (checkR b s).2.2 ≠ 0 then (checkR b s).2.2 else errTB b t n

theorem den47 (b : Be) (s : Sh) (t n : Int) : DN 47 [.agg b.enc, .agg s.enc, .int .i64 t, .int .i64 n] (.tup [.agg (b.enc ++ s.enc), .int .i64 (stepE b s t n)]) := by
  refine mk Tryz.func47 Tryz.call47 rfl rfl ?_
  refine ⟨_, rfl, _, den76 b s, ?_⟩
  refine ⟨fun h1 => ?_, fun h1 => ?_⟩
  · have h1 : ((checkR b s).2.2 != 0) = true := h1
    have h1 : (checkR b s).2.2 ≠ 0 := by simpa using h1
    show some (D.tup [.agg (b.enc ++ s.enc), .int .i64 (checkR b s).2.2]) = some (D.tup _)
    unfold stepE; rw [if_pos h1]
  · have h1 : ((checkR b s).2.2 != 0) = false := h1
    have h1 : ¬ (checkR b s).2.2 ≠ 0 := by simpa using h1
    refine Or.inl ⟨by kernel_rfl, ?_⟩
    refine ⟨_, rfl, _, den71 b s t n, ?_⟩
    show some (D.tup [.agg (b.enc ++ s.enc), .int .i64 (errTB b t n)]) = some (D.tup _)
    unfold stepE; rw [if_neg h1]

end Go.Proofs.Tide
