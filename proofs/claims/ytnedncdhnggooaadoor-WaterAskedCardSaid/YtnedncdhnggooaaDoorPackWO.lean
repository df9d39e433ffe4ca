/- The law: how many yards can be in a sample behind a further one; what Ask finds is the best; The law's function WaterAsked returns true; The laws' arguments, opened: what is asked for; pairs of numbers. No condition. -/
import Derived.Test.YtnedncdhnggooaaDoorPackWN
import Derived.Test.YtnedncdhnggooaaDoorPackWI
import Derived.Test.YtnedncdhnggooaaDoorPackWG
import Derived.Test.YtnedncdhnggooaaDoorPackWM

namespace Go.Proofs.Water
open Go.V Go.Proofs

def Sh.mostN (s : Sh) (l : List Smp) (n : Int) (x : Smp) : Nat := max (s.canR (l ++ [smpB x false]) n).1.length (s.canR (l ++ [smpB x true]) n).1.length

theorem row4_cat {l : List Smp} {x : Smp} {v : D} {b : Bool} (h : FV v b) : (l.map Smp.enc ++ [row4 x v]).map (·.map normB) = (l ++ [smpB x b]).map Smp.enc := by
  rw [List.map_append, List.map_map, List.map_append]
  congr 1
  show [(row4 x v).map normB] = [(smpB x b).enc]
  have h2 : row4 x v = row4 (smpB x b) v := rfl
  rw [h2, row4_norm (x := smpB x b) h]
theorem most_args {s : Sh} {l : List Smp} {n : Int} {x : Smp} {v : D} {b : Bool} (h : FV v b) {d : D} (hd : DN 19 [.agg s.enc, .list 4 ((l ++ [smpB x b]).map Smp.enc), .int .i64 n] d) :
    DN 19 [.agg s.enc, .list 4 (l.map Smp.enc ++ [row4 x v]), .int .i64 n] d := by
  rw [← row4_cat h] at hd
  exact hd.wkargs (.cons (.refl _) (.cons (.of (.rows _ _)) (.cons (.refl _) .nil)))

set_option maxRecDepth 8000 in
set_option maxHeartbeats 4000000 in
theorem den47 (s : Sh) (l : List Smp) (hl : l.length < 8) (n : Int) (x : Smp) : DN 47 [.agg s.enc, .list 4 (l.map Smp.enc), .int .i64 n, .agg x.enc] (.int .i64 (s.mostN l n x : Nat)) := by
  refine mk Tryd.func47 Tryd.call47 rfl rfl ?_
  have hb1 : (l.map Smp.enc).length * 32 ≤ mostBytes := by rw [List.length_map]; unfold mostBytes; omega
  have hb2 : ((l.map Smp.enc).length + 1) * 32 ≤ mostBytes := by rw [List.length_map]; unfold mostBytes; omega
  obtain ⟨⟨A, ae⟩, hA⟩ : ∃ a, s.canR (l ++ [smpB x false]) n = a := ⟨_, rfl⟩
  obtain ⟨⟨B, be⟩, hB⟩ : ∃ a, s.canR (l ++ [smpB x true]) n = a := ⟨_, rfl⟩
  have h1 := most_args (v := .ff) (.inl ⟨rfl, rfl⟩) (listD_congr (den19 s (l ++ [smpB x false]) n) hA)
  have h2 := most_args (v := .tt) (.inr (.inl ⟨rfl, rfl⟩)) (listD_congr (den19 s (l ++ [smpB x true]) n) hB)
  have hM : s.mostN l n x = max A.length B.length := by unfold Sh.mostN; rw [hA, hB]
  refine Or.inr (Or.inr ⟨[0, 1, 2, 3, 4, 5, 7, 6, 8, 9, 10, 11, 12, 13], 7, [0, 6, 10, 11], by kernel_rfl, ?_⟩)
  refine ⟨trivial, hb1, ?_⟩
  refine ⟨trivial, iff' (by rw [beq_self]; rfl) ⟨rfl, hb2, _, rfl, ?_⟩⟩
  refine ⟨⟨rfl, rfl, trivial⟩, ?_⟩
  refine ⟨_, mapO_cons rfl (mapO_cons (reify_sl rfl rfl) (mapO_cons rfl rfl)), _, h1, ?_⟩
  refine ⟨trivial, ?_⟩
  refine ⟨trivial, ?_⟩
  refine ⟨⟨rfl, trivial⟩, ?_⟩
  refine ⟨⟨rfl, rfl, trivial⟩, ?_⟩
  refine ⟨⟨rfl, trivial⟩, ?_⟩
  refine ⟨trivial, ?_⟩
  refine Or.inr (Or.inr ⟨[0, 1, 2, 3, 4, 5, 7, 6, 8, 9, 10, 11, 12, 13], 7, [0, 6, 10, 11], by kernel_rfl, ?_⟩)
  refine ⟨trivial, hb1, ?_⟩
  refine ⟨trivial, iff' (by rw [beq_self]; rfl) ⟨rfl, hb2, _, rfl, ?_⟩⟩
  refine ⟨⟨rfl, rfl, trivial⟩, ?_⟩
  refine ⟨_, mapO_cons rfl (mapO_cons (reify_sl rfl rfl) (mapO_cons rfl rfl)), _, h2, ?_⟩
  refine ⟨trivial, ?_⟩
  refine ⟨trivial, ?_⟩
  refine ⟨⟨rfl, trivial⟩, ?_⟩
  refine ⟨⟨rfl, rfl, trivial⟩, ?_⟩
  refine ⟨⟨rfl, trivial⟩, ?_⟩
  refine ⟨trivial, ?_⟩
  have e : max ((A.map encI).length : Int) ((B.map encI).length : Int) = ((s.mostN l n x : Nat) : Int) := by
    rw [hM, encI_len, encI_len]; omega
  show some (D.int .i64 (max ((A.map encI).length : Int) ((B.map encI).length : Int))) = _
  rw [e]

/-! ### What Ask finds -/

theorem askF_best (s : Sh) (l : List Smp) (n : Nat) (ps : List Int) : ∀ (L : List (Nat × Nat × Nat)) (b : Bst),
    (s.askF l n ps L b = b ∨ ∃ q ∈ L, s.askF l n ps L b = ⟨q.1, q.2.1, q.2.2, (s.leftAt l n ps q : Nat)⟩) ∧ (s.askF l n ps L b).n ≤ b.n ∧ ∀ q ∈ L, (s.askF l n ps L b).n ≤ (s.leftAt l n ps q : Nat)
  | [], b => ⟨.inl rfl, Int.le_refl _, fun q hq => by cases hq⟩
  | q :: L, b => by
    obtain ⟨h1, h2, h3⟩ := askF_best s l n ps L (b.upd q.1 q.2.1 q.2.2 (s.leftAt l n ps q))
    have he : s.askF l n ps (q :: L) b = s.askF l n ps L (b.upd q.1 q.2.1 q.2.2 (s.leftAt l n ps q)) := rfl
    rw [he]
    obtain ⟨r, hr⟩ : ∃ r, s.askF l n ps L (b.upd q.1 q.2.1 q.2.2 (s.leftAt l n ps q)) = r := ⟨_, rfl⟩
    rw [hr] at h1 h2 h3 ⊢
    by_cases hu : ((s.leftAt l n ps q : Nat) : Int) < b.n
    · have e : b.upd q.1 q.2.1 q.2.2 (s.leftAt l n ps q) = ⟨q.1, q.2.1, q.2.2, (s.leftAt l n ps q : Nat)⟩ := if_pos hu
      rw [e] at h1 h2
      have h2 : r.n ≤ ((s.leftAt l n ps q : Nat) : Int) := h2
      refine ⟨?_, by omega, fun q' hq' => ?_⟩
      · rcases h1 with h1 | ⟨q', hq', h1⟩
        · exact .inr ⟨q, by simp, h1⟩
        · exact .inr ⟨q', by simp [hq'], h1⟩
      · rcases List.mem_cons.1 hq' with rfl | hq'
        · exact h2
        · exact h3 q' hq'
    · have e : b.upd q.1 q.2.1 q.2.2 (s.leftAt l n ps q) = b := if_neg hu
      rw [e] at h1 h2
      refine ⟨?_, h2, fun q' hq' => ?_⟩
      · rcases h1 with h1 | ⟨q', hq', h1⟩
        · exact .inl h1
        · exact .inr ⟨q', by simp [hq'], h1⟩
      · rcases List.mem_cons.1 hq' with rfl | hq'
        · omega
        · exact h3 q' hq'
theorem askP_mem {m p a t k : Nat} : (a, t, k) ∈ askP m p ↔ a < p ∧ t < m ∧ k < 2 := by
  unfold askP
  simp only [List.mem_flatMap, List.mem_range, List.mem_map, Prod.mk.injEq]
  constructor
  · rintro ⟨a', h1, t', h2, k', h3, rfl, rfl, rfl⟩; exact ⟨h1, h2, h3⟩
  · rintro ⟨h1, h2, h3⟩; exact ⟨a, h1, t, h2, k, h3, rfl, rfl, rfl⟩

/-- How many yards can be in a sample behind a further one, as it is told with errors. -/
theorem can_card_R {s : Sh} {l : List Smp} (h : s.openE l = 0) {i : Nat} {x : Smp} (hx : l[i]? = some x) (hf : x.found = true) : (s.canR l i).1.length = card (s.can l (2 ^ i)) := by
  have hok := ok_of h
  cases he : s.expl l s.all with
  | true => rw [canR_ok h he hx hf, yardsZ_len]; rfl
  | false =>
    have hz : s.can l (2 ^ i) = 0 := zero_of_bits fun y => by
      cases hb : (s.can l (2 ^ i)).testBit y with
      | false => rfl
      | true =>
        obtain ⟨d, hd, hc⟩ := (can_one hok.v hok.ll hx y).1 hb
        unfold Sh.canAt at hc
        rw [Bool.and_eq_true] at hc
        rw [(expl_iff hok.ll _).2 ⟨d, hd, hc.1⟩] at he
        cases he
    have hn : s.agreedE l (s.foundE l i) ≠ 0 := by
      unfold Sh.agreedE
      cases hq : s.foundE l i == 0 with
      | true => rw [he]; exact (by decide : (9 : Int) ≠ 0)
      | false =>
        have : ¬ s.foundE l i = 0 := by simpa using hq
        exact this
    have hr : s.canR l i = ([], s.agreedE l (s.foundE l i)) := by
      unfold Sh.canR
      have : (s.agreedE l (s.foundE l i) != 0) = true := by simpa using hn
      rw [this]
    rw [hr, hz]
    rfl
theorem most_left {s : Sh} {l : List Smp} (h : s.openE l = 0) (hl : l.length < 8) {i : Nat} {y : Smp} (hy : l[i]? = some y) (hf : y.found = true) {x : Smp} (hx : s.okX x) : s.mostN l i x = s.leavesN l i x := by
  have hi := (List.getElem?_eq_some_iff.1 hy).1
  have hopen : ∀ b, s.openE (l ++ [smpB x b]) = 0 := fun b => by
    obtain ⟨a1, a2, a3, a4⟩ := (open_iff s l).1 h
    refine (open_iff s _).2 ⟨a1, a2, by simp; omega, fun z hz => ?_⟩
    rcases List.mem_append.1 hz with hz | hz
    · exact a4 z hz
    · rw [List.mem_singleton.1 hz]; exact hx
  have hc := fun b => can_card_R (hopen b) (i := i) (x := y) (by rw [List.getElem?_append_left hi]; exact hy) hf
  unfold Sh.mostN Sh.leavesN Sh.cardB
  rw [hc, hc, Nat.max_comm]

/-- What Ask finds is among what it is asked for, and the best. -/
theorem ask_best {s : Sh} {l : List Smp} (hok : s.Ok l) (hl : l.length < 8) (n : Nat) {ps : List Int} (hp : 1 ≤ ps.length) {b : Bst} (hb : s.askF l n ps (askP s.drifts.length ps.length) s.b0 = b) :
    b.at' < ps.length ∧ b.tide < s.drifts.length ∧ b.kind < 2 ∧ b.n = ((s.leavesN l n (smp0 (dAt ps b.at') b.tide b.kind) : Nat) : Int) ∧
      ∀ a t k : Nat, a < ps.length → t < s.drifts.length → k < 2 → b.n ≤ ((s.leavesN l n (smp0 (dAt ps a) t k) : Nat) : Int) := by
  have hdl := hok.v.dl
  have hlv : ∀ q : Nat × Nat × Nat, s.leftAt l n ps q = s.leavesN l n (smp0 (dAt ps q.1) q.2.1 q.2.2) := fun q => left_leaves s l n (smp0 (dAt ps q.1) q.2.1 q.2.2)
  obtain ⟨h1, h2, h3⟩ := askF_best s l n ps (askP s.drifts.length ps.length) s.b0
  rw [hb] at h1 h2 h3
  have hall : ∀ a t k : Nat, a < ps.length → t < s.drifts.length → k < 2 → b.n ≤ ((s.leavesN l n (smp0 (dAt ps a) t k) : Nat) : Int) := fun a t k ha ht hk => by
    have := h3 (a, t, k) (askP_mem.2 ⟨ha, ht, hk⟩)
    rw [hlv] at this
    exact this
  rcases h1 with h1 | ⟨⟨a, t, k⟩, hq, h1⟩
  · exfalso
    have h4 := hall 0 0 0 (by omega) (by omega) (by omega)
    have h5 := leaves_le hok.v hl n (smp0 (dAt ps 0) 0 0)
    rw [h1] at h4
    have h4 : (s.yards.length : Int) + 1 ≤ ((s.leavesN l n (smp0 (dAt ps 0) 0 0) : Nat) : Int) := h4
    omega
  · obtain ⟨ha, ht, hk⟩ := askP_mem.1 hq
    rw [h1]
    refine ⟨ha, ht, hk, ?_, ?_⟩
    · show ((s.leftAt l n ps (a, t, k) : Nat) : Int) = _
      rw [hlv]
    · rw [← h1]; exact hall

end Go.Proofs.Water

namespace Go.Proofs.Water
open Go.V Go.Proofs

theorem enc8_get {l : List Int} {i : Nat} (h : i < l.length) : (l.map enc8)[((i : Int)).toNat]? = some (enc8 (dAt l i)) := by simp [h, dAt]
theorem enc8_len (l : List Int) : ((l.map enc8).length : Int) = l.length := by simp
/-- The places that are asked for. -/
def askPl (ps : List Int) (k : Nat) : List Int := (List.range k).map fun i => (dAt ps i).tmod 101
theorem askPl_len (ps : List Int) (k : Nat) : (askPl ps k).length = k := by unfold askPl; simp
theorem askPl_add (ps : List Int) (k : Nat) : askPl ps (k + 1) = askPl ps k ++ [(dAt ps k).tmod 101] := by unfold askPl; rw [List.range_succ, List.map_append]; rfl
theorem askPl_in {ps : List Int} (h : inL ps 256) (k i : Nat) (hi : i < k) : 0 ≤ dAt (askPl ps k) i ∧ dAt (askPl ps k) i ≤ 100 := by
  have h1 : dAt (askPl ps k) i = (dAt ps i).tmod 101 := by
    obtain ⟨v, hv⟩ : ∃ v, (dAt ps i).tmod 101 = v := ⟨_, rfl⟩
    have e : (askPl ps k)[i]? = some v := by rw [← hv]; unfold askPl; simp [hi]
    rw [hv]; unfold dAt; rw [e]
  have h2 : 0 ≤ dAt ps i := by
    unfold dAt
    cases hv : ps[i]? with
    | none => exact Int.le_refl 0
    | some v => exact (h v (List.mem_of_getElem? hv)).1
  have h3 := tmod_range h2 (k := 101) (by decide)
  rw [h1]; omega
theorem ask_zero {s : Sh} {l : List Smp} (h : s.openE l = 0) (hl : l.length < 8) {i : Nat} {y : Smp} (hy : l[i]? = some y) (hf : y.found = true) {P : List Int} (hP : ∀ j, j < P.length → 0 ≤ dAt P j ∧ dAt P j ≤ 100) (hp4 : P.length ≤ 4) :
    s.askE l i P = if P.length = 0 then 3 else if s.expl l s.all = true then 0 else 9 := by
  have hi := (List.getElem?_eq_some_iff.1 hy).1
  have hg : givenE l i = 0 := by
    unfold givenE
    have h1 : [(i : Int)].any (outB 0 ((l.length : Int) - 1)) = false := by simp [outB]; omega
    rw [h1]
    have h2 : foundAt l ((i : Int)).toNat = true := by rw [Int.toNat_natCast, foundAt_get hy]; exact hf
    rw [h2]
  have hfe : (s.foundE l i != 0) = false := by
    unfold Sh.foundE
    rw [h, hg]; rfl
  have h8 : ((l.length : Int) == 8) = false := by simp; omega
  unfold Sh.askE
  rw [hfe, h8]
  by_cases h0 : P.length = 0
  · have h1 : [(P.length : Int)].any (outB 1 4) = true := by simp [outB]; omega
    rw [h1, if_pos h0]; rfl
  · have h1 : [(P.length : Int)].any (outB 1 4) = false := by simp [outB]; omega
    have h2 : P.any (outB 0 100) = false := by
      rw [List.any_eq_false]
      intro v hv
      obtain ⟨j, hj⟩ := List.mem_iff_getElem?.1 hv
      have hjl := (List.getElem?_eq_some_iff.1 hj).1
      have := hP j hjl
      unfold dAt at this
      rw [hj] at this
      simp [outB]
      omega
    rw [h1, h2, if_neg h0]
    cases s.expl l s.all <;> rfl

structure NextA where
  w : Int
  ps : List Int
  o0 : Int
  o1 : Int
  o2 : Int
def NextA.enc (x : NextA) : List D := [.int .u8 x.w, .list 1 (x.ps.map enc8), .int .u8 x.o0, .int .u8 x.o1, .int .u8 x.o2]
structure NextA.Ok (x : NextA) : Prop where
  w : 0 ≤ x.w ∧ x.w < 256
  ps : inL x.ps 256
  o0 : 0 ≤ x.o0 ∧ x.o0 < 256
  o1 : 0 ≤ x.o1 ∧ x.o1 < 256
  o2 : 0 ≤ x.o2 ∧ x.o2 < 256

set_option maxRecDepth 8000 in
set_option maxHeartbeats 8000000 in
theorem den11 (s : Sh) (l : List Smp) (x : NextA) (hx : x.Ok) : DN 11 [.agg s.enc, .list 4 (l.map Smp.enc), .agg x.enc] (.bool true) := by
  refine mk Tryd.func11 Tryd.call11 rfl rfl ?_
  have eqs : ∀ n : Int, (n == n) = true := fun n => by simp
  have h43 := den43 s l
  have hl8 := smp_lenI l
  obtain ⟨hw, hps, ho0, ho1, ho2⟩ := hx
  by_cases ho : s.openE l = 0
  rotate_left
  · obtain ⟨e, he⟩ : ∃ e, s.openE l = e := ⟨_, rfl⟩
    rw [he] at h43 ho
    refine ⟨_, rfl, _, h43, ?_⟩
    refine ⟨fun _ => ⟨_, rfl, _, den22, rfl⟩, fun h => absurd (by simpa using h) ho⟩
  rw [ho] at h43
  have hok := ok_of ho
  have hll := hok.ll
  have hdl := hok.v.dl
  refine ⟨_, rfl, _, h43, ?_⟩
  refine ⟨fun h => absurd h (by decide), fun _ => ?_⟩
  refine ⟨fun _ => ⟨_, rfl, _, den22, rfl⟩, fun hB => ?_⟩
  have hB : (((l.map Smp.enc).length : Int) == 0) = false := hB
  rw [hl8] at hB
  have hB : ¬ l.length = 0 := by simpa using hB
  refine ⟨fun _ => ⟨_, rfl, _, den22, rfl⟩, fun hC => ?_⟩
  have hC : (((l.map Smp.enc).length : Int) == 8) = false := hC
  rw [hl8] at hC
  have hl : l.length < 8 := by simp at hC; omega
  have hr := tmod_range hw.1 (k := l.length) (by omega)
  obtain ⟨i, hi⟩ : ∃ i : Nat, x.w.tmod l.length = i := ⟨(x.w.tmod l.length).toNat, by omega⟩
  rw [hi] at hr
  have hil : i < l.length := by omega
  obtain ⟨y, hyi⟩ : ∃ y, l[i] = y := ⟨_, rfl⟩
  have hgy : l[i]? = some y := by rw [List.getElem?_eq_getElem hil, hyi]
  have hrow : (l.map Smp.enc)[((i : Int)).toNat]? = some (y.enc) := by simp [hil, hyi]
  refine ⟨x.w, wrap64 (by omega) (by omega), ?_⟩
  refine ⟨by rw [hl8]; omega, (i : Int), by rw [hl8]; exact hi, ?_⟩
  refine ⟨by omega, _, hrow, ?_⟩
  refine ⟨fun _ => ⟨_, rfl, _, den22, rfl⟩, fun hD => ?_⟩
  have hf : y.found = true := by
    have hD : (!y.found) = false := hD
    simpa using hD
  refine ⟨x.w, wrap64 (by omega) (by omega), ?_⟩
  refine ⟨by rw [hl8]; omega, (i : Int), by rw [hl8]; exact hi, ?_⟩
  have hPl := enc8_len x.ps
  refine ⟨[1, 3, 5, 7, 8, 9], 2, [(.slot 8, 1)], fun σ => ∃ (k g : Nat), k ≤ x.ps.length ∧ k ≤ 4 ∧
    σ = ⟨[(1, .list 4 (l.map Smp.enc)), (3, .loc 0 0), (5, .loc 1 0), (7, .int .i64 i), (8, .sl 2 g 0 ((askPl x.ps k).map encI).length), (9, .int .i64 k)], [.flat false s.enc, .flat false x.enc, .rows false g 1 ((askPl x.ps k).map encI)], .non⟩,
    fun σ => (1000 - slotI 9 σ).toNat, rfl, ⟨rfl, rfl⟩, ⟨0, 0, Nat.zero_le _, by omega, rfl⟩, ?_⟩
  rintro σ ⟨k, g, hk, hk4, rfl⟩
  have hml := askPl_len x.ps k
  have hPin := askPl_in hps k
  refine ⟨fun h3 => ⟨fun h4 => ?_, fun h4 => ?_⟩, fun h3 => ?_⟩
  · have h3 := of_decide_eq_true h3
    rw [hPl] at h3
    have h4 : (k : Int) < 4 := of_decide_eq_true h4
    have hk' : k < x.ps.length := by omega
    have hv : 0 ≤ dAt x.ps k ∧ dAt x.ps k < 256 := by
      rw [dAt_get hk']
      exact hps _ (List.getElem_mem hk')
    have hcat : (askPl x.ps k).map encI ++ [[D.int .i64 ((dAt x.ps k).tmod 101)]] = (askPl x.ps (k + 1)).map encI := by rw [askPl_add]; simp [encI]
    refine ⟨by omega, _, enc8_get hk', ?_⟩
    refine ⟨dAt x.ps k, wrap64 (by omega) (by omega), ?_⟩
    refine ⟨by decide, _, rfl, ?_⟩
    refine ⟨trivial, iff' (by rw [beq_self]; rfl) ⟨rfl, ?_, _, hcat, ?_⟩⟩
    · rw [encI_len, hml]; show (k + 1) * 8 ≤ mostBytes; unfold mostBytes; omega
    refine ⟨(k : Int) + 1, wrap64 (by omega) (by omega), ?_⟩
    exact ⟨⟨rfl, rfl⟩, ⟨k + 1, g + 1, hk', by omega, rfl⟩, by show (1000 - ((k : Int) + 1)).toNat < (1000 - (k : Int)).toNat; omega⟩
  all_goals
    clear h3
    have hz := ask_zero ho hl hgy hf (P := askPl x.ps k) (fun j hj => hPin j (by omega)) (by omega)
    have h29 := den29 s l i (askPl x.ps k)
    have h17 := agreeD_congr (den17 s l) (agree_open ho)
    have hB0 : s.askE l i (askPl x.ps k) ≠ 0 → s.askB l i (askPl x.ps k) = ⟨0, 0, 0, 0⟩ := fun h => by
      have : (s.askE l i (askPl x.ps k) != 0) = true := by simpa using h
      unfold Sh.askB; rw [this]
    have hB1 : s.askE l i (askPl x.ps k) = 0 → s.askB l i (askPl x.ps k) = s.askF l i (askPl x.ps k) (askP s.drifts.length (askPl x.ps k).length) s.b0 := fun h => by
      have : (s.askE l i (askPl x.ps k) != 0) = false := by rw [h]; rfl
      unfold Sh.askB; rw [this]; rfl
    have hbest := fun hp => ask_best hok hl i (ps := askPl x.ps k) hp rfl
    have hmost := fun z hz => most_left ho hl hgy hf (x := z) hz
    obtain ⟨P, eP⟩ : ∃ P, askPl x.ps k = P := ⟨_, rfl⟩
    rw [eP] at hz h29 hB0 hB1 hbest hml hPin ⊢
    have hPlen : ((P.map encI).length : Int) = P.length := by rw [encI_len]
    by_cases h0 : P.length = 0
    · rw [if_pos h0] at hz
      rw [hB0 (by rw [hz]; decide), hz] at h29
      refine ⟨_, mapO_cons rfl (mapO_cons rfl (mapO_cons rfl (mapO_cons (reify_sl rfl rfl) rfl))), _, h29, ?_⟩
      refine ⟨_, rfl, _, h17, ?_⟩
      refine ⟨fun _ => ?_, fun h => absurd (show (((P.map encI).length : Int) == 0) = false from h) (by rw [hPlen]; simp [h0])⟩
      refine ⟨fun _ => ?_, fun h => absurd h (by decide)⟩
      refine ⟨fun _ => ?_, fun h => absurd h (by decide)⟩
      exact ⟨_, rfl, _, den22, rfl⟩
    rw [if_neg h0] at hz
    cases hx2 : s.expl l s.all with
    | false =>
      rw [hx2] at hz h17
      have hz : s.askE l i P = 9 := hz
      rw [hB0 (by rw [hz]; decide), hz] at h29
      refine ⟨_, mapO_cons rfl (mapO_cons rfl (mapO_cons rfl (mapO_cons (reify_sl rfl rfl) rfl))), _, h29, ?_⟩
      refine ⟨_, rfl, _, h17, ?_⟩
      refine ⟨fun h => absurd (show (((P.map encI).length : Int) == 0) = true from h) (by rw [hPlen]; simp [h0]), fun _ => ?_⟩
      refine ⟨fun _ => ?_, fun h => absurd h (by decide)⟩
      refine ⟨fun _ => ?_, fun h => absurd h (by decide)⟩
      refine ⟨fun _ => ?_, fun h => absurd h (by decide)⟩
      exact ⟨_, rfl, _, den22, rfl⟩
    | true =>
      rw [hx2] at hz h17
      have hz : s.askE l i P = 0 := hz
      obtain ⟨⟨a, t, kd, bn⟩, hbe⟩ : ∃ b, s.askF l i P (askP s.drifts.length P.length) s.b0 = b := ⟨_, rfl⟩
      rw [hB1 hz, hz, hbe] at h29
      have hbest := hbest (by omega)
      rw [hbe] at hbest
      obtain ⟨b1, b2, b3, b4, b5⟩ := hbest
      have b1 : a < P.length := b1
      have b2 : t < s.drifts.length := b2
      have b3 : kd < 2 := b3
      have b4 : bn = ((s.leavesN l i (smp0 (dAt P a) t kd) : Nat) : Int) := b4
      have b5 : ∀ a t k : Nat, a < P.length → t < s.drifts.length → k < 2 → bn ≤ ((s.leavesN l i (smp0 (dAt P a) t k) : Nat) : Int) := b5
      have hdml := sp_len s.drifts
      have hokx : ∀ a t k : Nat, a < P.length → t < s.drifts.length → k < 2 → s.okX (smp0 (dAt P a) t k) := fun a t k ha ht hk => ⟨⟨Int.natCast_nonneg _, by show (t : Int) < _; omega⟩, ⟨Int.natCast_nonneg _, by show (k : Int) ≤ 1; omega⟩, hPin a (by omega)⟩
      have c0 := tmod_range ho0.1 (k := P.length) (by omega)
      have c1 := tmod_range ho1.1 (k := s.drifts.length) (by omega)
      have c2 := tmod_range ho2.1 (k := 2) (by decide)
      obtain ⟨d0, hd0⟩ : ∃ d0 : Nat, x.o0.tmod P.length = d0 := ⟨(x.o0.tmod P.length).toNat, by omega⟩
      obtain ⟨d1, hd1⟩ : ∃ d1 : Nat, x.o1.tmod s.drifts.length = d1 := ⟨(x.o1.tmod s.drifts.length).toNat, by omega⟩
      obtain ⟨d2, hd2⟩ : ∃ d2 : Nat, x.o2.tmod 2 = d2 := ⟨(x.o2.tmod 2).toNat, by omega⟩
      rw [hd0] at c0
      rw [hd1] at c1
      rw [hd2] at c2
      have hget : ∀ j : Nat, j < P.length → (P.map encI)[j]? = some [.int .i64 (dAt P j)] := fun j hj => by simp [encI, hj, dAt]
      have m1 := hmost (smp0 (dAt P a) t kd) (hokx a t kd b1 b2 b3)
      have m2 := hmost (smp0 (dAt P d0) d1 d2) (hokx d0 d1 d2 (by omega) (by omega) (by omega))
      have h5 := b5 d0 d1 d2 (by omega) (by omega) (by omega)
      have h47a := den47 s l hl i (smp0 (dAt P a) t kd)
      have h47b := den47 s l hl i (smp0 (dAt P d0) d1 d2)
      rw [m1, ← b4] at h47a
      rw [m2] at h47b
      refine ⟨_, mapO_cons rfl (mapO_cons rfl (mapO_cons rfl (mapO_cons (reify_sl rfl rfl) rfl))), _, h29, ?_⟩
      refine ⟨_, rfl, _, h17, ?_⟩
      refine ⟨fun h => absurd (show (((P.map encI).length : Int) == 0) = true from h) (by rw [hPlen]; simp [h0]), fun _ => ?_⟩
      refine ⟨fun h => absurd h (by decide), fun _ => ?_⟩
      refine ⟨fun h => absurd h (by decide), fun _ => ?_⟩
      refine ⟨fun h => absurd h (by decide), fun _ => ?_⟩
      refine ⟨fun h => absurd (show ((a : Int) < 0) from of_decide_eq_true h) (by omega), fun _ => ?_⟩
      refine ⟨fun h => absurd (show ((a : Int) ≥ ((P.map encI).length : Int)) from of_decide_eq_true h) (by rw [hPlen]; omega), fun _ => ?_⟩
      refine ⟨fun h => absurd (show ((t : Int) < 0) from of_decide_eq_true h) (by omega), fun _ => ?_⟩
      refine ⟨fun h => absurd (show ((t : Int) ≥ ((s.drifts.map Sp.enc).length : Int)) from of_decide_eq_true h) (by rw [hdml]; omega), fun _ => ?_⟩
      refine ⟨fun h => absurd (show ((kd : Int) < 0) from of_decide_eq_true h) (by omega), fun _ => ?_⟩
      refine ⟨fun h => absurd (show ((kd : Int) ≥ 2) from of_decide_eq_true h) (by omega), fun _ => ?_⟩
      refine iff' (by rw [beq_self]; rfl) ⟨by omega, by rw [encI_len]; omega, a, by show 0 + ((a : Int)).toNat = a; omega, ?_⟩
      refine iff' (beq_self g) ⟨_, hget a b1, ?_⟩
      refine Or.inl ⟨by kernel_rfl, ?_⟩
      refine ⟨⟨by decide, by decide⟩, ?_⟩
      refine ⟨x.o0, wrap64 (by omega) (by omega), ?_⟩
      refine ⟨by rw [hPlen]; omega, (d0 : Int), by rw [hPlen]; exact hd0, ?_⟩
      refine iff' (by rw [beq_self]; rfl) ⟨by omega, by rw [encI_len]; omega, d0, by omega, ?_⟩
      refine iff' (beq_self g) ⟨_, hget d0 (by omega), ?_⟩
      refine ⟨⟨by decide, by decide⟩, ?_⟩
      refine ⟨x.o1, wrap64 (by omega) (by omega), ?_⟩
      refine ⟨by rw [hdml]; omega, (d1 : Int), by rw [hdml]; exact hd1, ?_⟩
      refine ⟨⟨by decide, by decide⟩, ?_⟩
      refine ⟨x.o2, wrap64 (by omega) (by omega), ?_⟩
      refine ⟨by decide, (d2 : Int), hd2, ?_⟩
      refine ⟨_, rfl, _, h47a, ?_⟩
      refine ⟨fun _ => ?_, fun h => absurd ((eqs _).symm.trans h) (by decide)⟩
      refine ⟨_, rfl, _, h47b, ?_⟩
      refine ⟨fun _ => ?_, fun h => absurd (show ¬ (((s.leavesN l i (smp0 (dAt P d0) d1 d2) : Nat) : Int) ≥ bn) from of_decide_eq_false h) (by omega)⟩
      exact ⟨_, rfl, _, den22, rfl⟩

end Go.Proofs.Water

namespace Go.Proofs.Water
open Go.V Go.Proofs

set_option maxRecDepth 100000 in
theorem next_of {n : Nat} {d : D} (h : WA Tryd.prog (n + 5) 75 d) : ∃ x : NextA, d = .agg x.enc ∧ x.Ok := by
  obtain ⟨ds, rfl, g⟩ := wa_struct Tryd.underlying75 h
  obtain ⟨a, r, rfl, _, ha, c, r2, rfl, _, hc, e, r3, rfl, _, he, rfl⟩ := wt_struct Tryd.underlying75 g
  obtain ⟨w, rfl, hw⟩ := u8_row ha
  obtain ⟨rows, rfl, hl, hr⟩ := wt_slice Tryd.underlying72 hc
  rw [cells5]
  obtain ⟨l, rfl, hp⟩ := rows_map (enc := enc8) (p := fun v => 0 ≤ v ∧ v < 256) fun row hrow => u8_row (hr row hrow).2
  obtain ⟨a0, q0, rfl, _, h0, a1, q1, rfl, _, h1, a2, q2, rfl, _, h2, rfl⟩ := wt_array Tryd.underlying73 he
  obtain ⟨o0, rfl, k0⟩ := u8_row h0
  obtain ⟨o1, rfl, k1⟩ := u8_row h1
  obtain ⟨o2, rfl, k2⟩ := u8_row h2
  exact ⟨⟨w, l, o0, o1, o2⟩, rfl, ⟨hw, hp, k0, k1, k2⟩⟩

end Go.Proofs.Water
