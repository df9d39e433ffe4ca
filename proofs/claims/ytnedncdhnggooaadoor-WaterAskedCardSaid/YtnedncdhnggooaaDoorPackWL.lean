/- The reference and the law: how many yards a further sample leaves. No condition. -/
import Derived.Test.YtnedncdhnggooaaDoorPackWE

namespace Go.Proofs.Water
open Go.V Go.Proofs

def smpB (x : Smp) (b : Bool) : Smp := ⟨x.place, x.tide, x.kind, b⟩
theorem okX_B {s : Sh} {x : Smp} (h : s.okX x) (b : Bool) : s.okX (smpB x b) := h
theorem ok_snoc {s : Sh} {l : List Smp} (h : s.Ok l) (hl : l.length < 8) {x : Smp} (hx : s.okX x) : s.Ok (l ++ [x]) :=
  ⟨h.v, by simp; omega, fun y hy => by
    rcases List.mem_append.1 hy with hy | hy
    · exact h.x y hy
    · rw [List.mem_singleton.1 hy]; exact hx⟩
/-- How many yards can be in a sample, if a further one shows b. -/
def Sh.cardB (s : Sh) (l : List Smp) (n : Nat) (x : Smp) (b : Bool) : Nat := card (s.can (l ++ [smpB x b]) (2 ^ n))
def Sh.leavesN (s : Sh) (l : List Smp) (n : Nat) (x : Smp) : Nat := max (s.cardB l n x true) (s.cardB l n x false)

theorem fnd_snoc (l : List Smp) (x : Smp) (b : Bool) : fnd (l ++ [smpB x b]) = if b = true then fnd l ||| 2 ^ l.length else fnd l := by
  apply Nat.eq_of_testBit_eq
  intro i
  rw [fnd_bit]
  unfold foundAt
  rcases Nat.lt_trichotomy i l.length with hi | hi | hi
  · rw [List.getElem?_append_left hi]
    have h2 : (2 ^ l.length).testBit i = false := by rw [pow_bit]; simp; omega
    cases b with
    | true => rw [if_pos rfl, Nat.testBit_or, h2, Bool.or_false, fnd_bit]; rfl
    | false => rw [if_neg (by simp), fnd_bit]; rfl
  · subst hi
    have h1 : (fnd l).testBit l.length = false := by rw [fnd_bit]; unfold foundAt; rw [List.getElem?_eq_none (Nat.le_refl _)]
    rw [List.getElem?_append_right (Nat.le_refl _), Nat.sub_self]
    cases b with
    | true => rw [if_pos rfl, Nat.testBit_or, pow_bit]; simp [smpB]
    | false => rw [if_neg (by simp), h1]; rfl
  · have h1 : (fnd l).testBit i = false := by rw [fnd_bit]; unfold foundAt; rw [List.getElem?_eq_none (by omega)]
    have h2 : (2 ^ l.length).testBit i = false := by rw [pow_bit]; simp; omega
    rw [List.getElem?_eq_none (by simp; omega)]
    cases b with
    | true => rw [if_pos rfl, Nat.testBit_or, h1, h2]; rfl
    | false => rw [if_neg (by simp), h1]
theorem inSet_B (s : Sh) (d : List Int) (y k t : Nat) (l : List Smp) (x : Smp) (b : Bool) : s.inSet d y k t (l ++ [smpB x b]) = s.inSet d y k t (l ++ [smpB x false]) := by
  apply Nat.eq_of_testBit_eq
  intro i
  rw [inSet_bit, inSet_bit]
  unfold Sh.inAt
  rcases Nat.lt_or_ge i l.length with hi | hi
  · rw [List.getElem?_append_left hi, List.getElem?_append_left hi]
  · rw [List.getElem?_append_right hi, List.getElem?_append_right hi]
    cases hj : i - l.length with
    | zero => rfl
    | succ j => rfl
theorem canF_B (s : Sh) (l : List Smp) (x : Smp) (b : Bool) (f sm : Nat) : s.canF (l ++ [smpB x b]) f sm = s.canF (l ++ [smpB x false]) f sm := by
  have hin := fun d y k t => inSet_B s d y k t l x b
  have he : ∀ d, s.es d (l ++ [smpB x b]) f = s.es d (l ++ [smpB x false]) f := fun d => by
    unfold Sh.es
    congr 1
    funext q
    unfold Sh.sees
    rw [hin]
  have hu : ∀ d, s.agr d (l ++ [smpB x b]) f s.all = s.agr d (l ++ [smpB x false]) f s.all := fun d => by
    unfold Sh.agr Sh.unc
    rw [he]
    unfold Sh.covs
    simp only [hin]
  unfold Sh.canF Sh.canP
  simp only [he, hu]
  unfold Sh.canE
  simp only [hin]
theorem left_leaves (s : Sh) (l : List Smp) (n : Nat) (x : Smp) : s.leftN l (fnd l) n (smpB x false) = s.leavesN l n x := by
  have h1 : s.canF (l ++ [smpB x false]) (fnd l) (2 ^ n) = s.can (l ++ [smpB x false]) (2 ^ n) := by
    unfold Sh.can; rw [fnd_snoc]; rfl
  have h2 : s.canF (l ++ [smpB x false]) (fnd l ||| 2 ^ l.length) (2 ^ n) = s.can (l ++ [smpB x true]) (2 ^ n) := by
    unfold Sh.can; rw [fnd_snoc, if_pos rfl, canF_B s l x true]
  unfold Sh.leftN Sh.leavesN Sh.cardB
  rw [h1, h2, Nat.max_comm]

theorem card_len (x : Nat) : (((yardsZ x).map encI).length : Int) = (card x : Nat) := by rw [encI_len, yardsZ_len]; rfl

set_option maxRecDepth 4000 in
set_option maxHeartbeats 2000000 in
theorem den73 (s : Sh) (l : List Smp) (h : s.Ok l) (hl : l.length < 8) (n : Nat) (hn : n < l.length) (x : Smp) (hx : s.okX x) :
    DN 73 [.agg s.enc, .list 4 (l.map Smp.enc), .int .i64 n, .agg x.enc] (.int .i64 (s.leavesN l n x : Nat)) := by
  refine mk Tryd.func73 Tryd.call73 rfl rfl ?_
  have hb1 : (l.map Smp.enc).length * 32 ≤ mostBytes := by rw [List.length_map]; unfold mostBytes; omega
  have hb2 : ((l.map Smp.enc).length + 1) * 32 ≤ mostBytes := by rw [List.length_map]; unfold mostBytes; omega
  refine ⟨[1, 2, 4, 7, 9, 10], 2, [], fun σ => ∃ (i : Nat) (m : Int) (b : Bool), i ≤ 2 ∧ (i = 0 → m = 0) ∧ (i = 1 → m = (s.cardB l n x true : Nat)) ∧ (i = 2 → m = (s.leavesN l n x : Nat)) ∧
    σ = ⟨[(1, .list 4 (l.map Smp.enc)), (2, .int .i64 n), (4, .loc 0 0), (7, .loc 1 0), (9, .int .i64 m), (10, .int .i64 i)], [.flat false s.enc, .flat false (smpB x b).enc], .non⟩,
    fun σ => (1000 - slotI 10 σ).toNat, rfl, ⟨rfl, rfl⟩, ⟨0, 0, x.found, by omega, fun _ => rfl, fun h => by omega, fun h => by omega, rfl⟩, ?_⟩
  rintro σ ⟨i, m, b, hi, h0, h1, h2, rfl⟩
  refine ⟨fun h3 => ?_, fun h3 => ?_⟩
  · have h3 : (i : Int) < 2 := of_decide_eq_true h3
    have hcat : l.map Smp.enc ++ [[D.int .i64 x.place, .int .i64 x.tide, .int .i64 x.kind, .bool ((i : Int) == 0)]] = (l ++ [smpB x ((i : Int) == 0)]).map Smp.enc := by
      rw [List.map_append]; rfl
    have hok := ok_snoc h hl (okX_B hx ((i : Int) == 0))
    have hcl : s.can (l ++ [smpB x ((i : Int) == 0)]) (2 ^ n) < 2 ^ 62 := Nat.lt_trans (can_lt _ _ _) (by decide)
    have hc := card_len (s.can (l ++ [smpB x ((i : Int) == 0)]) (2 ^ n))
    refine Or.inr (Or.inr ⟨[0, 1, 2, 3, 4, 5, 6, 8, 7, 9, 10, 11, 12, 13], 8, [0, 1, 7], by kernel_rfl, ?_⟩)
    refine ⟨trivial, hb1, ?_⟩
    refine ⟨trivial, iff' (by rw [beq_self]; rfl) ⟨rfl, hb2, _, hcat, ?_⟩⟩
    refine ⟨⟨rfl, rfl, rfl, trivial⟩, ?_⟩
    refine ⟨_, mapO_cons rfl (mapO_cons (reify_sl rfl rfl) (mapO_cons rfl rfl)), _, den68 s _ hok n (by simp; omega), ?_⟩
    refine ⟨⟨rfl, trivial⟩, ?_⟩
    refine ⟨_, rfl, _, den67 _ hcl, ?_⟩
    refine ⟨⟨rfl, trivial⟩, ?_⟩
    refine ⟨⟨rfl, trivial⟩, ?_⟩
    refine ⟨trivial, ?_⟩
    refine ⟨trivial, ?_⟩
    refine ⟨(i : Int) + 1, wrap64 (by omega) (by omega), ?_⟩
    refine ⟨⟨rfl, rfl⟩, ⟨i + 1, max m (((yardsZ (s.can (l ++ [smpB x ((i : Int) == 0)]) (2 ^ n))).map encI).length : Int), ((i : Int) == 0), by omega, fun h => by omega, fun h => ?_, fun h => ?_, rfl⟩, by show (1000 - ((i : Int) + 1)).toNat < (1000 - (i : Int)).toNat; omega⟩
    · have hi0 : i = 0 := by omega
      subst hi0
      rw [h0 rfl, hc]
      show max (0 : Int) ((s.cardB l n x true : Nat) : Int) = _
      omega
    · have hi1 : i = 1 := by omega
      subst hi1
      rw [h1 rfl, hc]
      show max ((s.cardB l n x true : Nat) : Int) ((s.cardB l n x false : Nat) : Int) = ((max (s.cardB l n x true) (s.cardB l n x false) : Nat) : Int)
      omega
  · have h3 : ¬ (i : Int) < 2 := of_decide_eq_false h3
    have hi2 : i = 2 := by omega
    show some (D.int .i64 m) = some (D.int .i64 _)
    rw [h2 hi2]

end Go.Proofs.Water
