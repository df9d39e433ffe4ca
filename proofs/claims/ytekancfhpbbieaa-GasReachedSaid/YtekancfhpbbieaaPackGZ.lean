/- One instrument more, which is never wrong, and its reading: the plain law; Both ends of the levels are reached. No condition. -/
import Derived.Test.YtekancfhpbbieaaPackGW
import Derived.Test.YtekancfhpbbieaaPackGD
import Derived.Test.YtekancfhpbbieaaPackGL

namespace Go.Proofs.Gas
open Go.V Go.Proofs

def zn (ts : List Tl) : ByteArray := ts.foldl (fun a x => a ++ x.1.extract 0 1) ⟨#[122]⟩
def Space.more (s : Space) : Space := ⟨s.start, s.rise, s.blow, s.limit, s.blows, s.tools ++ [(zn s.tools, 0)]⟩

theorem zn_snoc (ts : List Tl) (x : Tl) : zn (ts ++ [x]) = zn ts ++ x.1.extract 0 1 := by simp [zn]

def lets (l : List UInt8) : Prop := ∀ b ∈ l, letterB b.toNat = true

theorem data_at {s : ByteArray} {i : Nat} {b : UInt8} (h : s[i]? = some b) : s.data.toList[i]? = some b := by
  by_cases hi : i < s.size
  · rw [getElem?_pos s i hi] at h
    have : i < s.data.toList.length := by rw [Array.length_toList]; exact hi
    rw [List.getElem?_eq_getElem this]
    rw [← h]
    rfl
  · rw [getElem?_neg s i hi] at h; cases h

theorem name_lets {s : ByteArray} (h : lets s.data.toList) (h1 : 1 ≤ s.size) (h2 : s.size ≤ 16) : nameB s = true := by
  have : ∀ f i, nameFrom s f i = true := by
    intro f
    induction f with
    | zero => intro i; rfl
    | succ f ih =>
      intro i
      unfold nameFrom
      cases hb : s[i]? with
      | none => rfl
      | some b =>
        have := h b (List.mem_of_getElem? (data_at hb))
        simp only [nameC, this, Bool.true_or, Bool.true_and]
        exact ih (i + 1)
  unfold nameB
  rw [this, decide_eq_true h1, decide_eq_true h2]
  rfl

theorem name_first {s : ByteArray} (h : nameB s = true) : 1 ≤ s.size ∧ lets (s.extract 0 1).data.toList ∧ (s.extract 0 1).size = 1 := by
  unfold nameB at h
  simp only [Bool.and_eq_true, decide_eq_true_eq] at h
  obtain ⟨h1, h2, h3⟩ := h
  refine ⟨h2, ?_, ?_⟩
  · obtain ⟨⟨l⟩⟩ := s
    cases l with
    | nil => simp [ByteArray.size] at h2
    | cons c l =>
      have hc : letterB c.toNat = true := by
        have hs : (⟨⟨c :: l⟩⟩ : ByteArray).size = l.length + 1 := by simp [ByteArray.size]
        rw [hs] at h1
        unfold nameFrom at h1
        have hg : (⟨⟨c :: l⟩⟩ : ByteArray)[0]? = some c := by rw [getElem?_pos _ 0 (by simp [ByteArray.size])]; rfl
        rw [hg] at h1
        simp only [Bool.and_eq_true] at h1
        have := h1.1
        simpa [nameC] using this
      intro b hb
      simp [ByteArray.data_extract] at hb
      rw [hb]; exact hc
  · simp [ByteArray.size_extract]; omega

theorem toolsGood_names : ∀ (ts pre : List Tl), toolsGood pre ts → ∀ x ∈ ts, nameB x.1 = true
  | [], _, _, _, h => by cases h
  | y :: r, pre, h, x, hx => by
    rcases List.mem_cons.1 hx with rfl | hx
    · have := h.1.1
      unfold freshE at this
      cases hn : nameB x.1 with
      | true => rfl
      | false => rw [hn] at this; simp at this
    · exact toolsGood_names r _ h.2 x hx

theorem zn_ok (ts : List Tl) (h : ∀ x ∈ ts, nameB x.1 = true) : ∀ k, k ≤ ts.length → (zn (ts.take k)).size = k + 1 ∧ lets (zn (ts.take k)).data.toList
  | 0, _ => by
    refine ⟨by rw [List.take_zero]; rfl, fun b hb => ?_⟩
    rw [List.take_zero] at hb
    have : b = 122 := by simpa [zn] using hb
    subst this
    rfl
  | k + 1, hk => by
    obtain ⟨h1, h2⟩ := zn_ok ts h k (by omega)
    obtain ⟨_, h4, h5⟩ := name_first (h ts[k] (List.getElem_mem _))
    rw [List.take_succ_eq_append_getElem (by omega), zn_snoc]
    refine ⟨by rw [ByteArray.size_append, h1, h5], fun b hb => ?_⟩
    simp only [ByteArray.data_append, Array.toList_append, List.mem_append] at hb
    exact hb.elim (h2 b) (h4 b)

theorem toolsGood_snoc : ∀ (ts pre : List Tl) (x : Tl), toolsGood pre ts → (freshE (pre ++ ts) x.1 = 0 ∧ 0 ≤ x.2 ∧ x.2 ≤ 50) → toolsGood pre (ts ++ [x])
  | [], pre, x, _, h => ⟨by simpa using h, trivial⟩
  | y :: r, pre, x, h, hx => ⟨h.1, toolsGood_snoc r (pre ++ [y]) x h.2 (by simpa using hx)⟩

theorem more_valid {s : Space} (hv : s.Valid) (hl : s.tools.length < 3) (hn : (s.tools.any fun x => sameS x.1 (zn s.tools)) = false) : s.more.Valid := by
  obtain ⟨h1, h2, h3, h4, h5, h6, h7, h8⟩ := hv
  refine ⟨h1, h2, h3, h4, h5, h6, ?_, ?_⟩
  · simp only [Space.more, List.length_append, List.length_singleton]; omega
  · refine toolsGood_snoc s.tools [] _ h8 ⟨?_, Int.le_refl 0, by show (0 : Int) ≤ 50; decide⟩
    obtain ⟨z1, z2⟩ := zn_ok s.tools (toolsGood_names _ _ h8) s.tools.length (Nat.le_refl _)
    rw [List.take_length] at z1 z2
    have : nameB (zn s.tools) = true := name_lets z2 (by omega) (by omega)
    unfold freshE
    rw [this, List.nil_append, hn]

theorem more_good {s : Space} {l : List Rd} (h : s.good l) (hl : s.tools.length < 3) (hll : l.length < 12) (hn : (s.tools.any fun x => sameS x.1 (zn s.tools)) = false) {now : Nat} (hnow : now ≤ 60) {n : Int} (hr : -50 ≤ n ∧ n ≤ 250) :
    s.more.good (l ++ [⟨now, s.tools.length, n⟩]) := by
  have htl : s.more.tools.length = s.tools.length + 1 := by simp [Space.more]
  refine ⟨more_valid h.v hl hn, by simp; omega, fun r hr' => ?_⟩
  rw [readBad_ok, htl]
  rcases List.mem_append.1 hr' with hr' | hr'
  · have := readBad_ok.1 (h.ok r hr')
    omega
  · rw [List.mem_singleton.1 hr']
    simp only
    omega

theorem more_agrees {s : Space} {l : List Rd} (h : s.good l) (now : Nat) (n t m : Int) : s.more.agrees (l ++ [⟨now, s.tools.length, n⟩]) t m = (s.agrees l t m && (if t = now then inB m ⟨n, n⟩ else true)) := by
  have e1 : ∀ r ∈ l, s.more.fits t m r = s.fits t m r := fun r hr => by
    have hb := (readBad_ok.1 (h.ok r hr)).1
    have : s.more.err r.tool = s.err r.tool := by
      unfold Space.err
      have : s.more.tools[r.tool.toNat]? = s.tools[r.tool.toNat]? := List.getElem?_append_left (by omega)
      rw [this]
    unfold Space.fits
    rw [this]
  have e2 : s.more.err (s.tools.length : Int) = 0 := by
    unfold Space.err
    have : s.more.tools[((s.tools.length : Int)).toNat]? = some (zn s.tools, 0) := by simp [Space.more]
    rw [this]
  unfold Space.agrees
  rw [List.all_append, List.all_cons, List.all_nil, Bool.and_true, fits_in]
  simp only [e2, Int.sub_zero, Int.add_zero]
  congr 1
  have : ∀ l' : List Rd, (∀ r ∈ l', s.more.fits t m r = s.fits t m r) → l'.all (s.more.fits t m) = l'.all (s.fits t m) := by
    intro l'
    induction l' with
    | nil => intro _; rfl
    | cons x r ih => intro hh; rw [List.all_cons, List.all_cons, hh x (by simp), ih fun y hy => hh y (by simp [hy])]
  exact this l e1

theorem more_left {s : Space} {l : List Rd} (h : s.good l) (now : Nat) (n : Int) (hg : s.more.good (l ++ [⟨now, s.tools.length, n⟩])) (t : Int) :
    left (s.more.seen (l ++ [⟨now, s.tools.length, n⟩])) t = if t = now then both (left (s.seen l) t) ⟨n, n⟩ else left (s.seen l) t := by
  have key : ∀ k, inB k (left (s.more.seen (l ++ [⟨now, s.tools.length, n⟩])) t) = (inB k (left (s.seen l) t) && (if t = now then inB k ⟨n, n⟩ else true)) := fun k => by
    have h1 := left_reads s.more t k (l ++ [⟨now, s.tools.length, n⟩]) [] hg.ok
    have h2 := left_reads s t k l [] h.ok
    show inB k (left (s.more.reads _ []).1 t) = (inB k (left (s.reads l []).1 t) && _)
    rw [h1, h2, more_agrees h, Bool.and_assoc]
  by_cases ht : t = now
  · rw [if_pos ht]
    refine canon_ext (seen_ok s.more _ t).1 (both_canon _ _) fun k => ?_
    rw [key, if_pos ht, mem_both]
  · rw [if_neg ht]
    refine canon_ext (seen_ok s.more _ t).1 (seen_ok s l t).1 fun k => ?_
    rw [key, if_neg ht, Bool.and_true]

theorem more_lv (s : Space) (m : Seen) : ∀ t : Nat, s.more.lv m t = s.lv m t
  | 0 => rfl
  | t + 1 => by rw [Space.lv, Space.lv, more_lv s m t]; rfl

theorem lv_cut {s : Space} {m m' : Seen} {x : Sp} : ∀ now : Nat, (∀ t : Nat, t < now → left m' t = left m t) → left m' now = both (left m now) x → s.lv m' now = both (s.lv m now) x := by
  have assoc : ∀ a b : Sp, both a (both b x) = both (both a b) x := fun a b => canon_ext (both_canon _ _) (both_canon _ _) fun k => by
    rw [mem_both, mem_both, mem_both, mem_both, Bool.and_assoc]
  intro now
  cases now with
  | zero =>
    intro _ h
    rw [Space.lv, Space.lv]
    show both s.start (left m' ((0 : Nat) : Int)) = both (both s.start (left m ((0 : Nat) : Int))) x
    rw [h, assoc]
  | succ t =>
    intro h1 h2
    have e : (((t + 1 : Nat)) : Int) = (t : Int) + 1 := by omega
    rw [e] at h2
    rw [Space.lv, Space.lv, h2, assoc, lv_congr t fun i hi => h1 i (by omega)]

theorem more_level {s : Space} {l : List Rd} (h : s.good l) {now : Nat} (hnow : now ≤ 60) (n : Int) (hg : s.more.good (l ++ [⟨now, s.tools.length, n⟩])) (hX : ¬ s.lv (s.seen l) now = none') :
    s.more.levelE (l ++ [⟨now, s.tools.length, n⟩]) now = if (s.lv (s.seen l) now).lo ≤ n ∧ n ≤ (s.lv (s.seen l) now).hi then (⟨n, n⟩, 0) else (⟨0, 0⟩, 9) := by
  have hl := lv_lev h.v (s.seen l) now
  have e1 : s.more.lv (s.more.seen (l ++ [⟨now, s.tools.length, n⟩])) now = both (s.lv (s.seen l) now) ⟨n, n⟩ := by
    rw [more_lv]
    refine lv_cut now (fun t ht => ?_) ?_
    · rw [more_left h now n hg, if_neg (by omega)]
    · rw [more_left h now n hg, if_pos rfl]
  rw [levelE_eq (good_read' hg) (by omega), Int.toNat_natCast, e1]
  generalize s.lv (s.seen l) now = X at *
  have hne : ¬ ((⟨n, n⟩ : Sp) = none') := fun e => by
    injection e with e1 e2; omega
  by_cases hin : X.lo ≤ n ∧ n ≤ X.hi
  · have e2 : both X ⟨n, n⟩ = ⟨n, n⟩ := by
      unfold both
      rw [if_neg (by rintro (h | h | h); exact hX h; exact hne h; simp only at h; omega)]
      congr 1
      · simp only; omega
      · simp only; omega
    rw [if_pos hin, e2, if_neg hne]
  · have e2 : both X ⟨n, n⟩ = none' := by
      unfold both
      rw [if_pos (.inr (.inr (by simp only; omega)))]
    rw [if_neg hin, e2, if_pos rfl]

end Go.Proofs.Gas

namespace Go.Proofs.Gas
open Go.V Go.Proofs

def ends4 (X : Sp) (by' : Int) : List Int := [X.lo, X.hi, X.lo - by', X.hi + by']

set_option maxHeartbeats 4000000 in
theorem den9 (s : Space) (l : List Rd) (a b : Int) (ha : 0 ≤ a ∧ a < 256) (hb : 0 ≤ b ∧ b < 256) :
    DN 9 [.agg s.enc, .list 3 (l.map Rd.enc), .agg [.int .u8 a, .int .u8 b]] (.bool true) := by
  refine mk Try.func9 Try.call9 rfl rfl ?_
  have hlt : ((s.tools.map encT).length : Int) = s.tools.length := by simp
  have hll : ((l.map Rd.enc).length : Int) = l.length := by simp
  refine ⟨_, rfl, _, den36 s l, ?_⟩
  by_cases h0 : s.readE l = 0
  · rw [h0]
    refine ⟨(fun h => nomatch h), fun _ => ?_⟩
    refine ⟨fun h3 => ?_, fun h3 => ?_⟩
    · exact ⟨_, rfl, _, den21, rfl⟩
    refine ⟨fun h12 => ?_, fun h12 => ?_⟩
    · exact ⟨_, rfl, _, den21, rfl⟩
    have hg := good_of h0
    have hv := hg.v
    have h3 : ¬ (s.tools.length : Int) = 3 := by
      have : (((s.tools.map encT).length : Int) == 3) = false := h3
      rw [hlt] at this
      simpa using this
    have h12 : ¬ (l.length : Int) = 12 := by
      have : (((l.map Rd.enc).length : Int) == 12) = false := h12
      rw [hll] at this
      simpa using this
    have htl := hv.tlen
    have hlen := hg.len
    have hnr := tmod_range ha.1 (k := 61) (by decide)
    have hbr := tmod_range hb.1 (k := 20) (by decide)
    obtain ⟨now, hnow⟩ : ∃ now : Nat, a.tmod 61 = now := ⟨(a.tmod 61).toNat, by omega⟩
    rw [hnow] at hnr
    have hn60 : now ≤ 60 := by omega
    obtain ⟨c, hc⟩ : ∃ c, b.tmod 20 = c := ⟨_, rfl⟩
    rw [hc] at hbr
    refine Or.inl ⟨by kernel_rfl, ?_⟩
    refine ⟨by decide, ?_⟩
    refine ⟨a, wrap64 (by omega) (by omega), ?_⟩
    refine ⟨by decide, (now : Int), hnow, ?_⟩
    refine ⟨by decide, ?_⟩
    refine ⟨b, wrap64 (by omega) (by omega), ?_⟩
    refine ⟨by decide, c, hc, ?_⟩
    refine ⟨1 + c, wrap64 (by omega) (by omega), ?_⟩
    have h17 := den17 s l now
    obtain ⟨aN, aS⟩ := answers hg hn60
    by_cases hX : s.lv (s.seen l) now = none'
    · rw [(aN hX).1] at h17
      refine ⟨_, rfl, _, h17, ?_⟩
      refine ⟨fun _ => ?_, fun h => nomatch h⟩
      refine ⟨fun _ => ?_, fun h => nomatch h⟩
      exact ⟨_, rfl, _, den21, rfl⟩
    rw [(aS hX).1] at h17
    have hxl := lv_lev hv (s.seen l) now
    obtain ⟨X, hXe⟩ : ∃ X, s.lv (s.seen l) now = X := ⟨_, rfl⟩
    rw [hXe] at h17 hxl
    have hxr : 0 ≤ X.lo ∧ X.lo ≤ X.hi ∧ X.hi ≤ 200 := hxl.elim (fun h => absurd (hXe.trans h) hX) id
    have hnames := toolsGood_names _ _ hv.tools
    refine ⟨_, rfl, _, h17, ?_⟩
    refine ⟨(fun h => nomatch h), fun _ => ?_⟩
    refine ⟨[1, 3, 7, 8, 9, 11, 12, 13], 4, [], fun σ => ∃ k : Nat, k ≤ s.tools.length ∧
      σ = ⟨[(1, .list 3 (l.map Rd.enc)), (3, .loc 0 0), (7, .int .i64 now), (8, .int .i64 (1 + c)), (9, .loc 2 0), (11, .loc 3 0), (12, .str (zn (s.tools.take k))), (13, .int .i64 k)],
        [.flat false s.enc, .flat false [.int .u8 a, .int .u8 b], .flat false X.enc, .flat false s.enc], .non⟩, fun σ => (1000 - slotI 13 σ).toNat, rfl, ⟨rfl, rfl⟩, ⟨0, Nat.zero_le _, rfl⟩, ?_⟩
    rintro σ ⟨k, hk, rfl⟩
    refine ⟨fun h1 => ?_, fun h1 => ?_⟩
    · have h1 : (k : Int) < s.tools.length := by rw [← hlt]; exact of_decide_eq_true h1
      have hk' : k < s.tools.length := by omega
      obtain ⟨x, hx⟩ : ∃ x, s.tools[k] = x := ⟨_, rfl⟩
      have hrow : (s.tools.map encT)[((k : Int)).toNat]? = some (encT x) := by simp [hk', hx]
      obtain ⟨n1, n2, n3⟩ := name_first (hnames x (by rw [← hx]; exact List.getElem_mem hk'))
      obtain ⟨z1, z2⟩ := zn_ok s.tools hnames k hk
      have hz : zn (s.tools.take (k + 1)) = zn (s.tools.take k) ++ x.1.extract 0 1 := by rw [List.take_succ_eq_append_getElem hk', hx, zn_snoc]
      refine ⟨by omega, _, hrow, ?_⟩
      refine ⟨⟨by decide, by omega⟩, ?_⟩
      refine ⟨?_, ?_⟩
      · show ((zn (s.tools.take k)).size : Int) + ((x.1.extract 0 1).size : Int) ≤ _
        omega
      refine ⟨(k : Int) + 1, wrap64 (by omega) (by omega), ?_⟩
      exact ⟨⟨rfl, rfl⟩, ⟨k + 1, by omega, by rw [hz]; rfl⟩, by show (1000 - ((k : Int) + 1)).toNat < (1000 - (k : Int)).toNat; omega⟩
    have h1 : ¬ (k : Int) < s.tools.length := by rw [← hlt]; exact of_decide_eq_false h1
    have hkl : k = s.tools.length := by omega
    subst hkl
    rw [List.take_length]
    have hcatT : s.tools.map encT ++ [[.str (zn s.tools), .int .i64 0]] = s.more.tools.map encT := by simp [Space.more, encT]
    refine ⟨trivial, ?_, ?_⟩
    · show (s.tools.map encT).length * 24 ≤ mostBytes
      rw [List.length_map]; unfold mostBytes; omega
    refine ⟨trivial, iff' (by rfl) ⟨rfl, ?_, _, hcatT, ?_⟩⟩
    · show ((s.tools.map encT).length + 1) * 24 ≤ mostBytes
      rw [List.length_map]; unfold mostBytes; omega
    refine ⟨[1, 3, 7, 8, 9, 11, 12, 14], 6, [], fun σ => ∃ k : Nat, k ≤ s.tools.length ∧ ((s.tools.take k).any fun x => sameS x.1 (zn s.tools)) = false ∧
      σ = ⟨[(1, .list 3 (l.map Rd.enc)), (3, .loc 0 0), (7, .int .i64 now), (8, .int .i64 (1 + c)), (9, .loc 2 0), (11, .loc 3 0), (12, .str (zn s.tools)), (14, .int .i64 k)],
        [.flat false s.enc, .flat false [.int .u8 a, .int .u8 b], .flat false X.enc, .flat false [.int .i64 s.start.lo, .int .i64 s.start.hi, .int .i64 s.rise.lo, .int .i64 s.rise.hi, .int .i64 s.blow.lo, .int .i64 s.blow.hi, .int .i64 s.limit, .list 2 (s.blows.map Sp.enc), .sl 5 1 0 (s.more.tools.map encT).length],
         .rows false 0 2 [], .rows false 1 2 (s.more.tools.map encT)], .non⟩, fun σ => (1000 - slotI 14 σ).toNat, rfl, ⟨rfl, rfl⟩, ⟨0, Nat.zero_le _, rfl, rfl⟩, ?_⟩
    rintro σ ⟨k, hk, hno, rfl⟩
    refine ⟨fun h1 => ?_, fun h1 => ?_⟩
    · have h1 : (k : Int) < s.tools.length := by rw [← hlt]; exact of_decide_eq_true h1
      have hk' : k < s.tools.length := by omega
      obtain ⟨x, hx⟩ : ∃ x, s.tools[k] = x := ⟨_, rfl⟩
      have hrow : (s.tools.map encT)[((k : Int)).toNat]? = some (encT x) := by simp [hk', hx]
      refine ⟨by omega, _, hrow, ?_⟩
      refine ⟨fun e => ?_, fun e => ?_⟩
      · exact ⟨_, rfl, _, den21, rfl⟩
      · have e : sameS x.1 (zn s.tools) = false := e
        refine ⟨(k : Int) + 1, wrap64 (by omega) (by omega), ?_⟩
        exact ⟨⟨rfl, rfl⟩, ⟨k + 1, by omega, by rw [List.take_succ_eq_append_getElem hk', hx, List.any_append, hno]; simp [e], rfl⟩, by show (1000 - ((k : Int) + 1)).toNat < (1000 - (k : Int)).toNat; omega⟩
    have h1 : ¬ (k : Int) < s.tools.length := by rw [← hlt]; exact of_decide_eq_false h1
    have hkl : k = s.tools.length := by omega
    subst hkl
    rw [List.take_length] at hno
    refine ⟨[1, 3, 7, 8, 9, 11, 15], 6, [], fun σ => ∃ (i : Nat) (fz : Bool), i ≤ 4 ∧
      σ = ⟨[(1, .list 3 (l.map Rd.enc)), (3, .loc 0 0), (7, .int .i64 now), (8, .int .i64 (1 + c)), (9, .loc 2 0), (11, .loc 3 0), (15, .int .i64 i)],
        [.flat false s.enc, .flat false [.int .u8 a, .int .u8 b], .flat false X.enc, .flat false [.int .i64 s.start.lo, .int .i64 s.start.hi, .int .i64 s.rise.lo, .int .i64 s.rise.hi, .int .i64 s.blow.lo, .int .i64 s.blow.hi, .int .i64 s.limit, .list 2 (s.blows.map Sp.enc), .sl 5 1 0 (s.more.tools.map encT).length],
         .rows false 0 2 [], .rows fz 1 2 (s.more.tools.map encT)], .non⟩, fun σ => (1000 - slotI 15 σ).toNat, rfl, ⟨rfl, rfl⟩, ⟨0, false, Nat.zero_le _, rfl⟩, ?_⟩
    rintro σ ⟨i, fz, hi, rfl⟩
    refine ⟨fun h1 => ?_, fun h1 => ?_⟩
    · have h1 : (i : Int) < 4 := of_decide_eq_true h1
      obtain ⟨n, hrow, hr, hin, hout⟩ : ∃ n : Int, ([[.int .i64 X.lo], [.int .i64 X.hi], [.int .i64 (X.lo - (1 + c))], [.int .i64 (X.hi + (1 + c))]] : List (List D))[i]? = some [.int .i64 n] ∧ (-50 ≤ n ∧ n ≤ 250) ∧
          ((i : Int) < 2 → X.lo ≤ n ∧ n ≤ X.hi) ∧ (¬ (i : Int) < 2 → ¬ (X.lo ≤ n ∧ n ≤ X.hi)) := by
        have : i = 0 ∨ i = 1 ∨ i = 2 ∨ i = 3 := by omega
        rcases this with rfl | rfl | rfl | rfl
        · exact ⟨_, rfl, by omega, fun _ => by omega, fun h => by omega⟩
        · exact ⟨_, rfl, by omega, fun _ => by omega, fun h => by omega⟩
        · exact ⟨_, rfl, by omega, fun _ => by omega, fun h => by omega⟩
        · exact ⟨_, rfl, by omega, fun _ => by omega, fun h => by omega⟩
      have hgm := more_good hg (by omega) (by omega) hno hn60 hr
      have h17' := den17 s.more (l ++ [⟨now, s.tools.length, n⟩]) now
      rw [more_level hg hn60 n hgm hX, hXe] at h17'
      have hcat : l.map Rd.enc ++ [[.int .i64 now, .int .i64 (s.tools.map encT).length, .int .i64 n]] = (l ++ [(⟨now, s.tools.length, n⟩ : Rd)]).map Rd.enc := by rw [hlt]; simp [Rd.enc]
      refine ⟨X.lo - (1 + c), wrap64 (by omega) (by omega), ?_⟩
      refine ⟨X.hi + (1 + c), wrap64 (by omega) (by omega), ?_⟩
      refine ⟨by omega, by show (i : Int) < 4; omega, i, by simp, ?_⟩
      refine ⟨_, hrow, ?_⟩
      refine Or.inr (Or.inl ⟨10, [], by kernel_rfl, ?_⟩)
      refine ⟨trivial, ?_, ?_⟩
      · show (l.map Rd.enc).length * 24 ≤ mostBytes
        rw [List.length_map]; unfold mostBytes; omega
      refine ⟨trivial, iff' (by rfl) ⟨rfl, ?_, _, hcat, ?_⟩⟩
      · show ((l.map Rd.enc).length + 1) * 24 ≤ mostBytes
        rw [List.length_map]; unfold mostBytes; omega
      refine ⟨trivial, ?_⟩
      refine ⟨trivial, ?_⟩
      by_cases h2 : (i : Int) < 2
      · rw [if_pos (hin h2)] at h17'
        refine ⟨_, mapO_cons (reify_agg (mapO_cons rfl (mapO_cons rfl (mapO_cons rfl (mapO_cons rfl (mapO_cons rfl (mapO_cons rfl (mapO_cons rfl (mapO_cons rfl (mapO_cons (reify_sl rfl rfl) rfl)))))))))) (mapO_cons (reify_sl rfl rfl) (mapO_cons rfl rfl)), _, h17', ?_⟩
        refine Or.inl ⟨by kernel_rfl, ?_⟩
        refine ⟨fun _ => ?_, fun h => absurd h2 (of_decide_eq_false h)⟩
        refine ⟨(fun h => nomatch h), fun _ => ?_⟩
        refine ⟨_, rfl, _, den31 n n, ?_⟩
        refine ⟨fun h => absurd (show (!((n == n) && ((n == n) && true))) = true from h) (by simp), fun _ => ?_⟩
        refine ⟨fun h => absurd (of_decide_eq_true h) (by omega), fun _ => ?_⟩
        refine ⟨(i : Int) + 1, wrap64 (by omega) (by omega), ?_⟩
        exact ⟨⟨rfl, rfl⟩, ⟨i + 1, _, by omega, rfl⟩, by show (1000 - ((i : Int) + 1)).toNat < (1000 - (i : Int)).toNat; omega⟩
      · rw [if_neg (hout h2)] at h17'
        refine ⟨_, mapO_cons (reify_agg (mapO_cons rfl (mapO_cons rfl (mapO_cons rfl (mapO_cons rfl (mapO_cons rfl (mapO_cons rfl (mapO_cons rfl (mapO_cons rfl (mapO_cons (reify_sl rfl rfl) rfl)))))))))) (mapO_cons (reify_sl rfl rfl) (mapO_cons rfl rfl)), _, h17', ?_⟩
        refine Or.inl ⟨by kernel_rfl, ?_⟩
        refine ⟨fun h => absurd (of_decide_eq_true h) h2, fun _ => ?_⟩
        refine ⟨fun _ => ?_, fun h => absurd (of_decide_eq_false h) (by omega)⟩
        refine ⟨(fun h => nomatch h), fun _ => ?_⟩
        refine ⟨(i : Int) + 1, wrap64 (by omega) (by omega), ?_⟩
        exact ⟨⟨rfl, rfl⟩, ⟨i + 1, _, by omega, rfl⟩, by show (1000 - ((i : Int) + 1)).toNat < (1000 - (i : Int)).toNat; omega⟩
    · exact ⟨_, rfl, _, den21, rfl⟩
  · have hb : (s.readE l != 0) = true := by simpa using h0
    refine ⟨fun _ => ?_, fun h => absurd (hb.symm.trans h) (by decide)⟩
    exact ⟨_, rfl, _, den21, rfl⟩

end Go.Proofs.Gas
