/- GasFewest. No condition. -/
import Derived.Test.YtekancfhpbbieaaPackHE
import Derived.Test.YtekancfhpbbieaaPackHF

namespace Go.Proofs.Gas
open Go.V Go.Proofs

structure Ro where
  tool : Int
  shown : Int
  frm : Int
  to : Int
  other : List Int
  lower : List Int
  levels : List Int
def Ro.enc (x : Ro) : List D := [.int .u8 x.tool, .int .i16 x.shown, .int .u8 x.frm, .int .u8 x.to, .list 1 (x.other.map enc8), .list 1 (x.lower.map enc8), .list 1 (x.levels.map enc16)]
structure Ro.ok (x : Ro) : Prop where
  tool : 0 ≤ x.tool ∧ x.tool < 256
  frm : 0 ≤ x.frm ∧ x.frm < 256
  to : 0 ≤ x.to ∧ x.to < 256
  other : inL x.other 256
  lower : inL x.lower 256
  levels : inL x.levels 65536
  len : x.other.length ≤ 1048576

theorem need_span (H : Int → Int) (frm to : Int) : ∀ (n : Nat) (a : Int) (l : List Int), (to - a).toNat ≤ n → frm ≤ a → a ≤ to → (∀ m ∈ l, frm ≤ m) → covers H l a to → needN H frm to a ≤ to - a + 1 := by
  intro n
  induction n with
  | zero =>
    intro a l hn h1 h2 hl hc
    obtain ⟨m, hm, hm1, hm2⟩ := covB_iff.1 (hc a (Int.le_refl _) h2)
    have h3 := (need_best H frm to a h2).min m (hl m hm) (by omega) hm2
    unfold costF at h3
    rw [if_neg (by omega)] at h3
    have e : (needT H frm to a).1 = needN H frm to a := rfl
    omega
  | succ n ih =>
    intro a l hn h1 h2 hl hc
    obtain ⟨m, hm, hm1, hm2⟩ := covB_iff.1 (hc a (Int.le_refl _) h2)
    have h3 := (need_best H frm to a h2).min m (hl m hm) (by omega) hm2
    have e : (needT H frm to a).1 = needN H frm to a := rfl
    unfold costF at h3
    by_cases hto : H m < to
    · rw [if_pos hto] at h3
      have h4 := ih (H m + 1) l (by omega) (by omega) (by omega) hl (fun t ht1 ht2 => hc t (by omega) ht2)
      omega
    · rw [if_neg hto] at h3
      omega

theorem asc_get {l : List Int} (h : l.Pairwise (· < ·)) {i j : Nat} {x y : Int} (hij : i < j) (hx : l[i]? = some x) (hy : l[j]? = some y) : x < y := by
  obtain ⟨hi, rfl⟩ := List.getElem?_eq_some_iff.1 hx
  obtain ⟨hj, rfl⟩ := List.getElem?_eq_some_iff.1 hy
  exact List.pairwise_iff_getElem.1 h i j hi hj hij

set_option maxHeartbeats 16000000 in
theorem den12 (s : Space) (x : Ro) (hx : x.ok) : DN 12 [.agg s.enc, .agg x.enc] (.bool true) := by
  refine mk Try.func12 Try.call12 rfl rfl ?_
  refine ⟨_, rfl, _, den32 s, ?_⟩
  refine ⟨fun h0 => ?_, fun h0 => ?_⟩
  · have h0 : (!(s.err0 == 0)) = true := h0
    have he : s.err0 ≠ 0 := by simpa using h0
    have hb' : (s.err0 != 0) = true := by simpa using he
    have h27 := den27 s 0 0 0 0
    have ht : s.tooledE 0 0 [0, 0] = (none, s.err0) := by unfold Space.tooledE; simp only [hb']
    rw [fewestE_bad ht he] at h27
    refine ⟨_, rfl, _, h27, ?_⟩
    refine ⟨fun _ => ?_, fun h => absurd (hb'.symm.trans h) (by decide)⟩
    exact ⟨_, rfl, _, den21, rfl⟩
  have h0 : (!(s.err0 == 0)) = false := h0
  have he0 : s.err0 = 0 := by simpa using h0
  have hv : s.Valid := s.valid_iff.1 he0
  have hlt : ((s.tools.map encT).length : Int) = s.tools.length := by simp
  have htl := hv.tlen
  obtain ⟨tool, htool⟩ : ∃ tool, x.tool.tmod s.tools.length = tool := ⟨_, rfl⟩
  have htr := tmod_range hx.tool.1 (k := s.tools.length) (by omega)
  rw [htool] at htr
  obtain ⟨u, hu⟩ : ∃ u, IntKind.u16.wrap x.shown = u := ⟨_, rfl⟩
  have hur : 0 ≤ u ∧ u < 65536 := by rw [← hu]; unfold IntKind.wrap; simp [IntKind.bits, IntKind.signed]; omega
  obtain ⟨q, hq⟩ : ∃ q, u.tmod 301 = q := ⟨_, rfl⟩
  have hqr := tmod_range hur.1 (k := 301) (by decide)
  rw [hq] at hqr
  obtain ⟨shown, hshown⟩ : ∃ shown, (-50) + q = shown := ⟨_, rfl⟩
  have hsw : IntKind.i64.wrap ((-50) + q) = shown := by rw [wrap64 (by omega) (by omega), hshown]
  have huw : IntKind.i64.wrap u = u := wrap64 (by omega) (by omega)
  obtain ⟨frm, hfrm⟩ : ∃ frm, x.frm.tmod 61 = frm := ⟨_, rfl⟩
  have hfr := tmod_range hx.frm.1 (k := 61) (by decide)
  rw [hfrm] at hfr
  obtain ⟨tq, htq⟩ : ∃ tq, x.to.tmod (61 - frm) = tq := ⟨_, rfl⟩
  have htqr := tmod_range hx.to.1 (k := 61 - frm) (by omega)
  rw [htq] at htqr
  obtain ⟨to, hto⟩ : ∃ to, frm + tq = to := ⟨_, rfl⟩
  have hft : frm ≤ to := by omega
  have hto60 : to ≤ 60 := by omega
  have hsr : -50 ≤ shown ∧ shown ≤ 250 := by omega
  have ho : s.tooledE tool shown [frm, to] = (some [], 0) := by
    have e1 : (s.err0 != 0) = false := by simpa using he0
    have e2 : [tool].any (outB 0 ((s.tools.length : Int) - 1)) = false := by simp [outB]; omega
    have e3 : ([shown].any (outB (-50) 250) || [frm, to].any (outB 0 60)) = false := by simp [outB]; omega
    unfold Space.tooledE; simp only [e1, e2, e3]
  have h27 := den27 s tool shown frm to
  have hdec : decide (frm > to) = false := decide_eq_false (by omega)
  have hdown := fewestE_down (s := s) (tool := tool) (shown := shown) ho hdec
  have hok := fewestE_ok (s := s) (tool := tool) (shown := shown) ho hdec
  have hB := fun (l : List Int) (h1 : ∀ m ∈ l, 0 ≤ m ∧ m ≤ 60) (h2 : l.length ≤ 281474976710656) => den39 s hv tool shown frm to l htr hsr (by omega) (by omega) h1 h2
  obtain ⟨H, hH⟩ : ∃ H, s.holdsE tool shown = H := ⟨_, rfl⟩
  rw [hH] at hdown hok hB
  -- what Fewest returns
  obtain ⟨a, e, hae, hcase⟩ : ∃ (a : List Int) (e : Int), s.fewestE tool shown frm to = (a, e) ∧ ((e = 9 ∧ a = [] ∧ ∀ l : List Int, (∀ m ∈ l, frm ≤ m) → coversB H l frm to = false) ∨
      (e = 0 ∧ a.length ≤ 61 ∧ (∀ m ∈ a, frm ≤ m ∧ m ≤ to) ∧ a.Pairwise (· < ·) ∧ covers H a frm to ∧ ∀ l : List Int, (∀ m ∈ l, frm ≤ m) → l.length < a.length → coversB H l frm to = false)) := by
    by_cases h62 : needN H frm to frm ≥ 62
    · refine ⟨[], 9, hdown (decide_eq_true h62), .inl ⟨rfl, rfl, fun l hl => ?_⟩⟩
      rw [Bool.eq_false_iff]
      intro hc
      have := need_span H frm to _ frm l (Nat.le_refl _) (Int.le_refl _) hft hl (coversB_iff.1 hc)
      omega
    · have hch := chain_spec H frm to _ frm 62 (Nat.le_refl _) (Int.le_refl _) hft (by omega) (by omega)
      refine ⟨_, 0, hok (decide_eq_false h62), .inr ⟨rfl, ?_, hch.inr, hch.asc, hch.cov, fun l hl hlt => ?_⟩⟩
      · have := hch.len
        omega
      · rw [Bool.eq_false_iff]
        intro hc
        have h1 := need_cover H frm to _ frm l (Nat.le_refl _) (Int.le_refl _) hft hl (coversB_iff.1 hc)
        have h2 := hch.len
        omega
  rw [hae] at h27
  clear hdown hok hae
  have hxs := hx.tool
  have hxf := hx.frm
  have hxt := hx.to
  refine Or.inr (Or.inl ⟨13, [7, 8, 9, 10, 11, 12], by kernel_rfl, ?_⟩)
  refine ⟨x.tool, wrap64 (by omega) (by omega), ?_⟩
  refine ⟨by rw [hlt]; omega, tool, by rw [hlt]; exact htool, ?_⟩
  refine ⟨u, hu, ?_⟩
  refine ⟨u, huw, ?_⟩
  refine ⟨by decide, q, hq, ?_⟩
  refine ⟨shown, hsw, ?_⟩
  refine ⟨⟨rfl, rfl, ⟨u, hu, rfl⟩, ⟨u, huw, rfl⟩, ⟨by decide, q, hq, rfl⟩, ⟨shown, hsw, rfl⟩, trivial⟩, ?_⟩
  refine ⟨trivial, ?_⟩
  refine ⟨x.frm, wrap64 (by omega) (by omega), ?_⟩
  refine ⟨by decide, frm, hfrm, ?_⟩
  refine ⟨x.to, wrap64 (by omega) (by omega), ?_⟩
  refine ⟨61 - frm, wrap64 (by omega) (by omega), ?_⟩
  refine ⟨by omega, tq, htq, ?_⟩
  refine ⟨to, by rw [wrap64 (by omega) (by omega), hto], ?_⟩
  refine ⟨_, rfl, _, h27, ?_⟩
  -- the other minutes
  obtain ⟨oF, hoF⟩ : ∃ oF : Int → Int, (fun v : Int => frm + v.tmod (to - frm + 1)) = oF := ⟨_, rfl⟩
  have hoFe : ∀ v, frm + v.tmod (to - frm + 1) = oF v := fun v => by rw [← hoF]
  have holen : ((x.other.map enc8).length : Int) = x.other.length := by simp
  have hxo := hx.len
  refine ⟨[2, 3, 7, 8, 9, 10, 11, 12, 13, 14], 2, [(.slot 13, 1)], fun σ => ∃ i g : Nat, i ≤ x.other.length ∧
    σ = ⟨[(2, .loc 0 0), (3, .loc 1 0), (7, .int .i64 tool), (8, .int .i64 shown), (9, .int .i64 frm), (10, .int .i64 to), (11, .list 1 (a.map encI)), (12, .int .i64 e), (13, .sl 2 g 0 (((x.other.take i).map oF).map encI).length), (14, .int .i64 i)],
      [.flat false s.enc, .flat false x.enc, .rows false g 1 (((x.other.take i).map oF).map encI)], .non⟩, fun σ => ((x.other.length : Int) - slotI 14 σ).toNat, rfl, ⟨rfl, rfl⟩, ⟨0, 0, Nat.zero_le _, rfl⟩, ?_⟩
  rintro σ ⟨i, g, hi, rfl⟩
  refine ⟨fun h1 => ?_, fun h1 => ?_⟩
  · have h1 : (i : Int) < x.other.length := by rw [← holen]; exact of_decide_eq_true h1
    have hi' : i < x.other.length := by omega
    obtain ⟨v, hvm⟩ : ∃ v, x.other[i]? = some v := ⟨_, List.getElem?_eq_getElem hi'⟩
    have hvr := hx.other v (List.mem_of_getElem? hvm)
    have hrow : (x.other.map enc8)[((i : Int)).toNat]? = some (enc8 v) := by rw [Int.toNat_natCast, List.getElem?_map, hvm]; rfl
    have hme : ((x.other.length : Int) - ((i : Int) + 1)).toNat < ((x.other.length : Int) - (i : Int)).toNat := by omega
    have hvq := tmod_range hvr.1 (k := to - frm + 1) (by omega)
    have hcat : ((x.other.take i).map oF).map encI ++ [[D.int .i64 (oF v)]] = ((x.other.take (i + 1)).map oF).map encI := by
      rw [List.take_add_one, hvm]; simp [encI]
    refine ⟨by omega, _, hrow, ?_⟩
    refine ⟨v, wrap64 (by omega) (by omega), ?_⟩
    refine ⟨to - frm, wrap64 (by omega) (by omega), ?_⟩
    refine ⟨to - frm + 1, wrap64 (by omega) (by omega), ?_⟩
    refine ⟨by omega, v.tmod (to - frm + 1), rfl, ?_⟩
    refine ⟨oF v, by rw [wrap64 (by omega) (by omega), hoFe], ?_⟩
    refine ⟨trivial, iff' (by rw [beq_self]; rfl) ⟨rfl, ?_, _, hcat, ?_⟩⟩
    · rw [List.length_map, List.length_map, List.length_take]; show (_ + 1) * 8 ≤ mostBytes; unfold mostBytes; omega
    refine ⟨(i : Int) + 1, wrap64 (by omega) (by omega), ?_⟩
    exact ⟨⟨rfl, rfl⟩, ⟨i + 1, g + 1, hi', rfl⟩, hme⟩
  have h1 : ¬ (i : Int) < x.other.length := by rw [← holen]; exact of_decide_eq_false h1
  have hil : x.other.take i = x.other := List.take_of_length_le (by omega)
  rw [hil]
  obtain ⟨O, hO⟩ : ∃ O, x.other.map oF = O := ⟨_, rfl⟩
  have hOm : ∀ m ∈ O, frm ≤ m ∧ m ≤ to := fun m hm => by
    rw [← hO] at hm
    obtain ⟨v, hv1, rfl⟩ := List.mem_map.1 hm
    have hvr := hx.other v hv1
    have hvq := tmod_range hvr.1 (k := to - frm + 1) (by omega)
    rw [← hoFe]
    omega
  have hOl : O.length ≤ 1048576 := by rw [← hO, List.length_map]; exact hxo
  have hOl' : ((O.map encI).length : Int) = O.length := by simp
  have h39 := hB O (fun m hm => by have := hOm m hm; omega) (by omega)
  rw [hO]
  clear hB
  rcases hcase with ⟨rfl, rfl, hno⟩ | ⟨rfl, hal, har, hasc, hcov, hno⟩
  · rw [hno O fun m hm => (hOm m hm).1] at h39
    refine ⟨fun _ => ?_, fun h => nomatch h⟩
    refine ⟨fun _ => ?_, fun h => nomatch h⟩
    refine ⟨fun _ => ?_, fun h => nomatch h⟩
    refine ⟨_, mapO_cons rfl (mapO_cons rfl (mapO_cons rfl (mapO_cons rfl (mapO_cons rfl (mapO_cons (reify_sl rfl rfl) rfl))))), _, h39, ?_⟩
    refine ⟨fun _ => ?_, fun h => nomatch h⟩
    exact ⟨_, rfl, _, den21, rfl⟩
  refine ⟨(fun h => nomatch h), fun _ => ?_⟩
  have hallen : ((a.map encI).length : Int) = a.length := by simp
  have hrowa : ∀ {i : Nat} {v : Int}, a[i]? = some v → (a.map encI)[((i : Int)).toNat]? = some (encI v) := fun {i v} h => by rw [Int.toNat_natCast, List.getElem?_map, h]; rfl
  refine ⟨[2, 3, 7, 8, 9, 10, 11, 13, 15], 3, [], fun σ => ∃ i : Nat, i ≤ a.length ∧
    σ = ⟨[(2, .loc 0 0), (3, .loc 1 0), (7, .int .i64 tool), (8, .int .i64 shown), (9, .int .i64 frm), (10, .int .i64 to), (11, .list 1 (a.map encI)), (13, .sl 2 g 0 (O.map encI).length), (15, .int .i64 i)],
      [.flat false s.enc, .flat false x.enc, .rows false g 1 (O.map encI)], .non⟩, fun σ => (1000 - slotI 15 σ).toNat, rfl, ⟨rfl, rfl⟩, ⟨0, Nat.zero_le _, rfl⟩, ?_⟩
  rintro σ ⟨i, hi, rfl⟩
  refine ⟨fun h1 => ?_, fun h1 => ?_⟩
  · have h1 : (i : Int) < a.length := by rw [← hallen]; exact of_decide_eq_true h1
    have hi' : i < a.length := by omega
    obtain ⟨v, hvm⟩ : ∃ v, a[i]? = some v := ⟨_, List.getElem?_eq_getElem hi'⟩
    have hvr := har v (List.mem_of_getElem? hvm)
    have hme : (1000 - ((i : Int) + 1)).toNat < (1000 - (i : Int)).toNat := by omega
    have n1 : ∀ h : decide (v < frm) = true, False := fun h => by have := of_decide_eq_true h; omega
    have n2 : ∀ h : decide (v > to) = true, False := fun h => by have := of_decide_eq_true h; omega
    refine Or.inl ⟨by kernel_rfl, ?_⟩
    refine ⟨by omega, _, hrowa hvm, ?_⟩
    refine ⟨fun h => (n1 h).elim, fun _ => ?_⟩
    refine ⟨by omega, _, hrowa hvm, ?_⟩
    refine ⟨fun h => (n2 h).elim, fun _ => ?_⟩
    refine ⟨fun h2 => ?_, fun h2 => ?_⟩
    · have h2 : (i : Int) > 0 := of_decide_eq_true h2
      obtain ⟨j, rfl⟩ : ∃ j, i = j + 1 := ⟨i - 1, by omega⟩
      obtain ⟨v', hvm'⟩ : ∃ v', a[j]? = some v' := ⟨_, List.getElem?_eq_getElem (by omega)⟩
      have hlt := asc_get hasc (Nat.lt_succ_self j) hvm' hvm
      refine ⟨by omega, _, hrowa hvm, ?_⟩
      refine ⟨(j : Int), by rw [wrap64 (by omega) (by omega)]; omega, ?_⟩
      refine ⟨by omega, _, hrowa hvm', ?_⟩
      refine ⟨fun h => by have := of_decide_eq_true h; omega, fun _ => ?_⟩
      refine ⟨((j + 1 : Nat) : Int) + 1, wrap64 (by omega) (by omega), ?_⟩
      exact ⟨⟨rfl, rfl⟩, ⟨j + 1 + 1, by omega, rfl⟩, hme⟩
    · refine ⟨(i : Int) + 1, wrap64 (by omega) (by omega), ?_⟩
      exact ⟨⟨rfl, rfl⟩, ⟨i + 1, hi', rfl⟩, hme⟩
  have h1 : ¬ (i : Int) < a.length := by rw [← hallen]; exact of_decide_eq_false h1
  obtain ⟨f, hf⟩ : ∃ f, s.tl x.levels = f := ⟨_, rfl⟩
  have hfr' : ∀ t, 0 ≤ f t ∧ f t ≤ 200 := fun t => by rw [← hf]; exact tl_in hv hx.levels t
  have hpath : s.path f 60 := by rw [← hf]; exact tl_path hv hx.levels
  have h33 := den33 s hv x.levels hx.levels
  rw [hf] at h33
  have hfget : ∀ t : Int, 0 ≤ t → t ≤ 60 → (((List.range 61).map f).map encI)[t.toNat]? = some (encI (f t.toNat)) := fun t h1 h2 => by
    rw [List.getElem?_map, List.getElem?_map, List.getElem?_range (by omega)]; rfl
  obtain ⟨tx, htx⟩ : ∃ tx, s.tools[tool.toNat]? = some tx := ⟨_, List.getElem?_eq_getElem (by omega)⟩
  have htxe : s.err tool = tx.2 := by unfold Space.err; rw [htx]
  have htxr := hv.err tool
  rw [htxe] at htxr
  have hrowt : (s.tools.map encT)[tool.toNat]? = some (encT tx) := by rw [List.getElem?_map, htx]; rfl
  obtain ⟨F, hF⟩ : ∃ F : Nat → Rd, rdF s f tool x.lower a = F := ⟨_, rfl⟩
  have hFe : ∀ (i : Nat) (v : Int), a[i]? = some v → F i = ⟨v, tool, amongE ⟨f v.toNat - tx.2, f v.toNat + tx.2⟩ (turnE x.lower i)⟩ := fun i v h => by
    rw [← hF]; unfold rdF; rw [h, htxe]; rfl
  have hFok : ∀ i : Nat, i < a.length → (F i).shown ≤ shown → RdOK s f tool shown (F i) := fun i h1 h2 => by
    rw [← hF] at h2 ⊢
    exact rdF_ok hv hx.lower (fun m hm => by have := har m hm; omega) h1 h2
  have hlw : ((x.lower.map enc8).length : Int) = x.lower.length := by simp
  -- behind the readings
  have rest : ∀ (i g : Nat), i = a.length → (∀ j : Nat, j < i → (F j).shown ≤ shown) → i ≤ 12 → ∀ t : Nat, frm ≤ t → (t : Int) ≤ to → ∃ n, s.untilE ((List.range i).map F) t = (n, 0) ∧ (t : Int) ≤ n ∧ f t ≤ s.limit := fun i g hia hsh hi12 t ht1 ht2 => by
    refine fewest_law hv hpath (tool := tool) (shown := shown) htr (by simp; exact hi12) (fun r hr => ?_) (by omega) ?_
    · obtain ⟨j, hj, rfl⟩ := List.mem_map.1 hr
      have hj := List.mem_range.1 hj
      exact hFok j (by omega) (hsh j hj)
    · obtain ⟨m, hm, hm1, hm2⟩ := covB_iff.1 (hcov t ht1 ht2)
      obtain ⟨j, hj⟩ := List.mem_iff_getElem?.1 hm
      have hjl := (List.getElem?_eq_some_iff.1 hj).1
      refine ⟨F j, List.mem_map.2 ⟨j, List.mem_range.2 (by omega), rfl⟩, ?_⟩
      rw [hFe j m hj, hH]
      exact ⟨hm1, hm2⟩
  have next : ((O.map encI).length : Int) < (a.map encI).length → coversB H O frm to = false := fun h => hno O (fun m hm => (hOm m hm).1) (by omega)
  clear hcov hno
  refine ⟨fun h2 => ?_, fun h2 => ?_⟩
  · have h2 : ((O.map encI).length : Int) < (a.map encI).length := of_decide_eq_true h2
    rw [next h2] at h39
    refine ⟨_, mapO_cons rfl (mapO_cons rfl (mapO_cons rfl (mapO_cons rfl (mapO_cons rfl (mapO_cons (reify_sl rfl rfl) rfl))))), _, h39, ?_⟩
    refine ⟨(fun h => nomatch h), fun _ => ?_⟩
    refine ⟨_, rfl, _, h33, ?_⟩
    refine ⟨[2, 3, 7, 8, 9, 10, 11, 16, 17, 18], 2, [(.slot 17, 3)], fun σ => ∃ i g : Nat, i ≤ a.length ∧ (∀ j : Nat, j < i → (F j).shown ≤ shown) ∧
      σ = ⟨[(2, .loc 0 0), (3, .loc 1 0), (7, .int .i64 tool), (8, .int .i64 shown), (9, .int .i64 frm), (10, .int .i64 to), (11, .list 1 (a.map encI)), (16, .list 1 (((List.range 61).map f).map encI)), (17, .sl 2 g 0 (((List.range i).map F).map Rd.enc).length), (18, .int .i64 i)],
        [.flat false s.enc, .flat false x.enc, .rows false g 3 (((List.range i).map F).map Rd.enc)], .non⟩, fun σ => (1000 - slotI 18 σ).toNat, rfl, ⟨rfl, rfl⟩, ⟨0, 0, Nat.zero_le _, fun j hj => absurd hj (Nat.not_lt_zero _), rfl⟩, ?_⟩
    rintro σ ⟨i, g, hi, hsh, rfl⟩
    refine ⟨fun h1 => ?_, fun h1 => ?_⟩
    · have h1 : (i : Int) < a.length := by rw [← hallen]; exact of_decide_eq_true h1
      have hi' : i < a.length := by omega
      obtain ⟨v, hvm⟩ : ∃ v, a[i]? = some v := ⟨_, List.getElem?_eq_getElem hi'⟩
      have hvr := har v (List.mem_of_getElem? hvm)
      have hme : (1000 - ((i : Int) + 1)).toNat < (1000 - (i : Int)).toNat := by omega
      have hFi := hFe i v hvm
      have hlenF : (((List.range i).map F).map Rd.enc).length = i := by simp
      have hfm := hfr' v.toNat
      have hww := turn_in hx.lower (by decide) (i : Int)
      have hcat : ((List.range i).map F).map Rd.enc ++ [Rd.enc (F i)] = ((List.range (i + 1)).map F).map Rd.enc := by
        rw [List.range_succ]; simp
      rw [hFi] at hcat
      have hshi : amongE ⟨f v.toNat - tx.2, f v.toNat + tx.2⟩ (turnE x.lower i) ≤ shown → ∀ j : Nat, j < i + 1 → (F j).shown ≤ shown := fun h j hj => by
        by_cases hji : j = i
        · rw [hji, hFi]; exact h
        · exact hsh j (by omega)
      obtain ⟨w, hw⟩ : ∃ w, turnE x.lower i = w := ⟨_, rfl⟩
      rw [hw] at hww hcat hshi
      refine ⟨fun h3 => ?_, fun h3 => ?_⟩
      · have h3 : (x.lower.length : Int) > 0 := by rw [← hlw]; exact of_decide_eq_true h3
        have hr := tmod_range (n := (i : Int)) (by omega) (k := x.lower.length) h3
        have hgw : x.lower[((i : Int).tmod x.lower.length).toNat]? = some w := by
          rw [← hw]
          unfold turnE
          rw [List.getElem?_eq_getElem (by omega)]
        refine Or.inl ⟨by kernel_rfl, ?_⟩
        refine ⟨by rw [hlw]; omega, (i : Int).tmod x.lower.length, by rw [hlw], ?_⟩
        refine ⟨hr.1, enc8 w, by rw [List.getElem?_map, hgw]; rfl, ?_⟩
        refine ⟨w, wrap64 (by omega) (by omega), ?_⟩
        refine ⟨htr.1, encT tx, hrowt, ?_⟩
        refine Or.inl ⟨by kernel_rfl, ?_⟩
        refine ⟨by omega, _, hrowa hvm, ?_⟩
        refine ⟨by omega, _, hrowa hvm, ?_⟩
        refine ⟨by omega, _, hfget v (by omega) (by omega), ?_⟩
        refine ⟨f v.toNat - tx.2, wrap64 (by omega) (by omega), ?_⟩
        refine ⟨by omega, _, hrowa hvm, ?_⟩
        refine ⟨by omega, _, hfget v (by omega) (by omega), ?_⟩
        refine ⟨f v.toNat + tx.2, wrap64 (by omega) (by omega), ?_⟩
        refine ⟨_, rfl, _, den31 (f v.toNat - tx.2) (f v.toNat + tx.2), ?_⟩
        refine ⟨_, rfl, _, den40 ⟨f v.toNat - tx.2, f v.toNat + tx.2⟩ (w) (by simp only; omega) ⟨⟨by simp only; omega, by simp only; omega⟩, by simp only; omega, by simp only; omega⟩ hww.1, ?_⟩
        refine ⟨fun _ => ?_, fun h5 => ?_⟩
        · exact ⟨_, rfl, _, den21, rfl⟩
        have h5 := of_decide_eq_false h5
        refine ⟨trivial, iff' (by rw [beq_self]; rfl) ⟨rfl, ?_, _, hcat, ?_⟩⟩
        · rw [hlenF]; show (_ + 1) * 24 ≤ mostBytes; unfold mostBytes; omega
        refine ⟨(i : Int) + 1, wrap64 (by omega) (by omega), ?_⟩
        exact ⟨⟨rfl, rfl⟩, ⟨i + 1, g + 1, hi', hshi (by omega), rfl⟩, hme⟩
      · have h3 : ¬ (x.lower.length : Int) > 0 := by rw [← hlw]; exact of_decide_eq_false h3
        obtain rfl : w = 0 := by
          have : x.lower = [] := List.eq_nil_of_length_eq_zero (by omega)
          rw [← hw, this]; rfl
        refine ⟨htr.1, encT tx, hrowt, ?_⟩
        refine Or.inl ⟨by kernel_rfl, ?_⟩
        refine ⟨by omega, _, hrowa hvm, ?_⟩
        refine ⟨by omega, _, hrowa hvm, ?_⟩
        refine ⟨by omega, _, hfget v (by omega) (by omega), ?_⟩
        refine ⟨f v.toNat - tx.2, wrap64 (by omega) (by omega), ?_⟩
        refine ⟨by omega, _, hrowa hvm, ?_⟩
        refine ⟨by omega, _, hfget v (by omega) (by omega), ?_⟩
        refine ⟨f v.toNat + tx.2, wrap64 (by omega) (by omega), ?_⟩
        refine ⟨_, rfl, _, den31 (f v.toNat - tx.2) (f v.toNat + tx.2), ?_⟩
        refine ⟨_, rfl, _, den40 ⟨f v.toNat - tx.2, f v.toNat + tx.2⟩ (0) (by simp only; omega) ⟨⟨by simp only; omega, by simp only; omega⟩, by simp only; omega, by simp only; omega⟩ hww.1, ?_⟩
        refine ⟨fun _ => ?_, fun h5 => ?_⟩
        · exact ⟨_, rfl, _, den21, rfl⟩
        have h5 := of_decide_eq_false h5
        refine ⟨trivial, iff' (by rw [beq_self]; rfl) ⟨rfl, ?_, _, hcat, ?_⟩⟩
        · rw [hlenF]; show (_ + 1) * 24 ≤ mostBytes; unfold mostBytes; omega
        refine ⟨(i : Int) + 1, wrap64 (by omega) (by omega), ?_⟩
        exact ⟨⟨rfl, rfl⟩, ⟨i + 1, g + 1, hi', hshi (by omega), rfl⟩, hme⟩
    have h1 : ¬ (i : Int) < a.length := by rw [← hallen]; exact of_decide_eq_false h1
    obtain rfl : i = a.length := by omega
    have hlenF : ((((List.range a.length).map F).map Rd.enc).length : Int) = a.length := by simp
    obtain ⟨rs, hrs⟩ : ∃ rs, (List.range a.length).map F = rs := ⟨_, rfl⟩
    have hrest := rest a.length g rfl hsh
    rw [hrs] at hrest hlenF ⊢
    refine ⟨fun _ => ?_, fun h12 => ?_⟩
    · exact ⟨_, rfl, _, den21, rfl⟩
    have h12 : ¬ ((rs.map Rd.enc).length : Int) > 12 := of_decide_eq_false h12
    have hrest := hrest (by omega)
    refine ⟨[2, 10, 16, 17, 22], 3, [], fun σ => ∃ t : Int, (frm ≤ t ∧ t ≤ to + 1) ∧
      σ = ⟨[(2, .loc 0 0), (10, .int .i64 to), (16, .list 1 (((List.range 61).map f).map encI)), (17, .sl 2 g 0 (rs.map Rd.enc).length), (22, .int .i64 t)],
        [.flat false s.enc, .flat false x.enc, .rows false g 3 (rs.map Rd.enc)], .non⟩, fun σ => (1000 - slotI 22 σ).toNat, rfl, ⟨rfl, rfl⟩, ⟨frm, by omega, rfl⟩, ?_⟩
    rintro σ ⟨t, ht, rfl⟩
    refine ⟨fun h4 => ?_, fun _ => ?_⟩
    · have h4 : t ≤ to := of_decide_eq_true h4
      have hme : (1000 - (t + 1)).toNat < (1000 - t).toNat := by omega
      have h19 := den19 s rs t
      obtain ⟨k, rfl⟩ : ∃ k : Nat, t = k := ⟨t.toNat, by omega⟩
      obtain ⟨n, hn1, hn2, hn3⟩ := hrest k ht.1 h4
      rw [hn1] at h19
      refine ⟨_, mapO_cons rfl (mapO_cons (reify_sl rfl rfl) (mapO_cons rfl rfl)), _, h19, ?_⟩
      refine Or.inl ⟨by kernel_rfl, ?_⟩
      refine ⟨(fun h => nomatch h), fun _ => ?_⟩
      refine ⟨fun h => by have := of_decide_eq_true h; omega, fun _ => ?_⟩
      refine ⟨by omega, _, hfget k (by omega) (by omega), ?_⟩
      refine ⟨fun h => absurd (show f k > s.limit from of_decide_eq_true h) (by omega), fun _ => ?_⟩
      refine ⟨(k : Int) + 1, wrap64 (by omega) (by omega), ?_⟩
      exact ⟨⟨rfl, rfl⟩, ⟨(k : Int) + 1, by omega, rfl⟩, hme⟩
    · exact ⟨_, rfl, _, den21, rfl⟩
  · clear h2
    refine ⟨_, rfl, _, h33, ?_⟩
    refine ⟨[2, 3, 7, 8, 9, 10, 11, 16, 17, 18], 2, [(.slot 17, 3)], fun σ => ∃ i g : Nat, i ≤ a.length ∧ (∀ j : Nat, j < i → (F j).shown ≤ shown) ∧
      σ = ⟨[(2, .loc 0 0), (3, .loc 1 0), (7, .int .i64 tool), (8, .int .i64 shown), (9, .int .i64 frm), (10, .int .i64 to), (11, .list 1 (a.map encI)), (16, .list 1 (((List.range 61).map f).map encI)), (17, .sl 2 g 0 (((List.range i).map F).map Rd.enc).length), (18, .int .i64 i)],
        [.flat false s.enc, .flat false x.enc, .rows false g 3 (((List.range i).map F).map Rd.enc)], .non⟩, fun σ => (1000 - slotI 18 σ).toNat, rfl, ⟨rfl, rfl⟩, ⟨0, 0, Nat.zero_le _, fun j hj => absurd hj (Nat.not_lt_zero _), rfl⟩, ?_⟩
    rintro σ ⟨i, g, hi, hsh, rfl⟩
    refine ⟨fun h1 => ?_, fun h1 => ?_⟩
    · have h1 : (i : Int) < a.length := by rw [← hallen]; exact of_decide_eq_true h1
      have hi' : i < a.length := by omega
      obtain ⟨v, hvm⟩ : ∃ v, a[i]? = some v := ⟨_, List.getElem?_eq_getElem hi'⟩
      have hvr := har v (List.mem_of_getElem? hvm)
      have hme : (1000 - ((i : Int) + 1)).toNat < (1000 - (i : Int)).toNat := by omega
      have hFi := hFe i v hvm
      have hlenF : (((List.range i).map F).map Rd.enc).length = i := by simp
      have hfm := hfr' v.toNat
      have hww := turn_in hx.lower (by decide) (i : Int)
      have hcat : ((List.range i).map F).map Rd.enc ++ [Rd.enc (F i)] = ((List.range (i + 1)).map F).map Rd.enc := by
        rw [List.range_succ]; simp
      rw [hFi] at hcat
      have hshi : amongE ⟨f v.toNat - tx.2, f v.toNat + tx.2⟩ (turnE x.lower i) ≤ shown → ∀ j : Nat, j < i + 1 → (F j).shown ≤ shown := fun h j hj => by
        by_cases hji : j = i
        · rw [hji, hFi]; exact h
        · exact hsh j (by omega)
      obtain ⟨w, hw⟩ : ∃ w, turnE x.lower i = w := ⟨_, rfl⟩
      rw [hw] at hww hcat hshi
      refine ⟨fun h3 => ?_, fun h3 => ?_⟩
      · have h3 : (x.lower.length : Int) > 0 := by rw [← hlw]; exact of_decide_eq_true h3
        have hr := tmod_range (n := (i : Int)) (by omega) (k := x.lower.length) h3
        have hgw : x.lower[((i : Int).tmod x.lower.length).toNat]? = some w := by
          rw [← hw]
          unfold turnE
          rw [List.getElem?_eq_getElem (by omega)]
        refine Or.inl ⟨by kernel_rfl, ?_⟩
        refine ⟨by rw [hlw]; omega, (i : Int).tmod x.lower.length, by rw [hlw], ?_⟩
        refine ⟨hr.1, enc8 w, by rw [List.getElem?_map, hgw]; rfl, ?_⟩
        refine ⟨w, wrap64 (by omega) (by omega), ?_⟩
        refine ⟨htr.1, encT tx, hrowt, ?_⟩
        refine Or.inl ⟨by kernel_rfl, ?_⟩
        refine ⟨by omega, _, hrowa hvm, ?_⟩
        refine ⟨by omega, _, hrowa hvm, ?_⟩
        refine ⟨by omega, _, hfget v (by omega) (by omega), ?_⟩
        refine ⟨f v.toNat - tx.2, wrap64 (by omega) (by omega), ?_⟩
        refine ⟨by omega, _, hrowa hvm, ?_⟩
        refine ⟨by omega, _, hfget v (by omega) (by omega), ?_⟩
        refine ⟨f v.toNat + tx.2, wrap64 (by omega) (by omega), ?_⟩
        refine ⟨_, rfl, _, den31 (f v.toNat - tx.2) (f v.toNat + tx.2), ?_⟩
        refine ⟨_, rfl, _, den40 ⟨f v.toNat - tx.2, f v.toNat + tx.2⟩ (w) (by simp only; omega) ⟨⟨by simp only; omega, by simp only; omega⟩, by simp only; omega, by simp only; omega⟩ hww.1, ?_⟩
        refine ⟨fun _ => ?_, fun h5 => ?_⟩
        · exact ⟨_, rfl, _, den21, rfl⟩
        have h5 := of_decide_eq_false h5
        refine ⟨trivial, iff' (by rw [beq_self]; rfl) ⟨rfl, ?_, _, hcat, ?_⟩⟩
        · rw [hlenF]; show (_ + 1) * 24 ≤ mostBytes; unfold mostBytes; omega
        refine ⟨(i : Int) + 1, wrap64 (by omega) (by omega), ?_⟩
        exact ⟨⟨rfl, rfl⟩, ⟨i + 1, g + 1, hi', hshi (by omega), rfl⟩, hme⟩
      · have h3 : ¬ (x.lower.length : Int) > 0 := by rw [← hlw]; exact of_decide_eq_false h3
        obtain rfl : w = 0 := by
          have : x.lower = [] := List.eq_nil_of_length_eq_zero (by omega)
          rw [← hw, this]; rfl
        refine ⟨htr.1, encT tx, hrowt, ?_⟩
        refine Or.inl ⟨by kernel_rfl, ?_⟩
        refine ⟨by omega, _, hrowa hvm, ?_⟩
        refine ⟨by omega, _, hrowa hvm, ?_⟩
        refine ⟨by omega, _, hfget v (by omega) (by omega), ?_⟩
        refine ⟨f v.toNat - tx.2, wrap64 (by omega) (by omega), ?_⟩
        refine ⟨by omega, _, hrowa hvm, ?_⟩
        refine ⟨by omega, _, hfget v (by omega) (by omega), ?_⟩
        refine ⟨f v.toNat + tx.2, wrap64 (by omega) (by omega), ?_⟩
        refine ⟨_, rfl, _, den31 (f v.toNat - tx.2) (f v.toNat + tx.2), ?_⟩
        refine ⟨_, rfl, _, den40 ⟨f v.toNat - tx.2, f v.toNat + tx.2⟩ (0) (by simp only; omega) ⟨⟨by simp only; omega, by simp only; omega⟩, by simp only; omega, by simp only; omega⟩ hww.1, ?_⟩
        refine ⟨fun _ => ?_, fun h5 => ?_⟩
        · exact ⟨_, rfl, _, den21, rfl⟩
        have h5 := of_decide_eq_false h5
        refine ⟨trivial, iff' (by rw [beq_self]; rfl) ⟨rfl, ?_, _, hcat, ?_⟩⟩
        · rw [hlenF]; show (_ + 1) * 24 ≤ mostBytes; unfold mostBytes; omega
        refine ⟨(i : Int) + 1, wrap64 (by omega) (by omega), ?_⟩
        exact ⟨⟨rfl, rfl⟩, ⟨i + 1, g + 1, hi', hshi (by omega), rfl⟩, hme⟩
    have h1 : ¬ (i : Int) < a.length := by rw [← hallen]; exact of_decide_eq_false h1
    obtain rfl : i = a.length := by omega
    have hlenF : ((((List.range a.length).map F).map Rd.enc).length : Int) = a.length := by simp
    obtain ⟨rs, hrs⟩ : ∃ rs, (List.range a.length).map F = rs := ⟨_, rfl⟩
    have hrest := rest a.length g rfl hsh
    rw [hrs] at hrest hlenF ⊢
    refine ⟨fun _ => ?_, fun h12 => ?_⟩
    · exact ⟨_, rfl, _, den21, rfl⟩
    have h12 : ¬ ((rs.map Rd.enc).length : Int) > 12 := of_decide_eq_false h12
    have hrest := hrest (by omega)
    refine ⟨[2, 10, 16, 17, 22], 3, [], fun σ => ∃ t : Int, (frm ≤ t ∧ t ≤ to + 1) ∧
      σ = ⟨[(2, .loc 0 0), (10, .int .i64 to), (16, .list 1 (((List.range 61).map f).map encI)), (17, .sl 2 g 0 (rs.map Rd.enc).length), (22, .int .i64 t)],
        [.flat false s.enc, .flat false x.enc, .rows false g 3 (rs.map Rd.enc)], .non⟩, fun σ => (1000 - slotI 22 σ).toNat, rfl, ⟨rfl, rfl⟩, ⟨frm, by omega, rfl⟩, ?_⟩
    rintro σ ⟨t, ht, rfl⟩
    refine ⟨fun h4 => ?_, fun _ => ?_⟩
    · have h4 : t ≤ to := of_decide_eq_true h4
      have hme : (1000 - (t + 1)).toNat < (1000 - t).toNat := by omega
      have h19 := den19 s rs t
      obtain ⟨k, rfl⟩ : ∃ k : Nat, t = k := ⟨t.toNat, by omega⟩
      obtain ⟨n, hn1, hn2, hn3⟩ := hrest k ht.1 h4
      rw [hn1] at h19
      refine ⟨_, mapO_cons rfl (mapO_cons (reify_sl rfl rfl) (mapO_cons rfl rfl)), _, h19, ?_⟩
      refine Or.inl ⟨by kernel_rfl, ?_⟩
      refine ⟨(fun h => nomatch h), fun _ => ?_⟩
      refine ⟨fun h => by have := of_decide_eq_true h; omega, fun _ => ?_⟩
      refine ⟨by omega, _, hfget k (by omega) (by omega), ?_⟩
      refine ⟨fun h => absurd (show f k > s.limit from of_decide_eq_true h) (by omega), fun _ => ?_⟩
      refine ⟨(k : Int) + 1, wrap64 (by omega) (by omega), ?_⟩
      exact ⟨⟨rfl, rfl⟩, ⟨(k : Int) + 1, by omega, rfl⟩, hme⟩
    · exact ⟨_, rfl, _, den21, rfl⟩

end Go.Proofs.Gas
