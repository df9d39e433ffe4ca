/- The law's arguments, opened; what its row's list gives; a world for the witness. No condition. -/
import Derived.Test.YtdhdeopenednaaaGreatDoorCards
import Derived.Test.YtdhdeopenednaaaGreatDoorTie
import Derived.Stop.LaidErr
import Derived.Stop.Joined
import Derived.Test.YtdhdeopenednaaaGreatDoorPackXL
import Derived.Test.YtdhdeopenednaaaGreatDoorPackVM

namespace Go.Proofs.Top
open Go.V Go.Proofs Go.RowKit Go.ChangeShapes Go.WideShapes Go.ChangeAt
open Go.Proofs.YtdhdeopenednaaaGreatDoor (Rows.topDrainedRow Rows.laid_math_bits_deBruijn32tab Rows.laid_math_bits_deBruijn64tab)

theorem cell3 : Tryz.prog.cellsOf 3 = 1 := by kernel_rfl
theorem cell5 : Tryz.prog.cellsOf 5 = 1 := by kernel_rfl
theorem cell23 : Tryz.prog.cellsOf 23 = 2 := by kernel_rfl
theorem cell55 : Tryz.prog.cellsOf 55 = 3 := by kernel_rfl
theorem cell104 : Tryz.prog.cellsOf 104 = 5 := by kernel_rfl
theorem cell121 : Tryz.prog.cellsOf 121 = 1 := by kernel_rfl
theorem u16_of {m : Int} (h : (Lit.int .u16 m).wf = true) : 0 ≤ m ∧ m < 65536 := by
  have h1 : decide (IntKind.u16.min ≤ m) = true ∧ decide (m ≤ IntKind.u16.max) = true := by simpa only [Lit.wf, Bool.and_eq_true] using h
  rw [decide_eq_true_eq, decide_eq_true_eq] at h1
  have e1 : IntKind.u16.min = 0 := by decide
  have e2 : IntKind.u16.max = 65535 := by decide
  rw [e1, e2] at h1
  omega
theorem u8_of {m : Int} (h : (Lit.int .u8 m).wf = true) : 0 ≤ m ∧ m < 256 := by
  have h1 : decide (IntKind.u8.min ≤ m) = true ∧ decide (m ≤ IntKind.u8.max) = true := by simpa only [Lit.wf, Bool.and_eq_true] using h
  rw [decide_eq_true_eq, decide_eq_true_eq] at h1
  have e1 : IntKind.u8.min = 0 := by decide
  have e2 : IntKind.u8.max = 255 := by decide
  rw [e1, e2] at h1
  omega
theorem u32_of {m : Int} (h : (Lit.int .u32 m).wf = true) : 0 ≤ m ∧ m < 4294967296 := by
  have h1 : decide (IntKind.u32.min ≤ m) = true ∧ decide (m ≤ IntKind.u32.max) = true := by simpa only [Lit.wf, Bool.and_eq_true] using h
  rw [decide_eq_true_eq, decide_eq_true_eq] at h1
  have e1 : IntKind.u32.min = 0 := by decide
  have e2 : IntKind.u32.max = 4294967295 := by decide
  rw [e1, e2] at h1
  omega


set_option maxRecDepth 100000 in
theorem spT_of {n : Nat} {ds : List D} (h : WT Tryz.prog (n + 2) 23 ds) : ∃ s : Tide.Sp, ds = s.enc := by
  obtain ⟨a, r, rfl, _, ha, c, r2, rfl, _, hc, rfl⟩ := wt_struct Tryz.underlying23 h
  obtain ⟨l, rfl, _⟩ := wt_int Tryz.underlying3 ha
  obtain ⟨u, rfl, _⟩ := wt_int Tryz.underlying3 hc
  exact ⟨⟨l, u⟩, rfl⟩
set_option maxRecDepth 100000 in
theorem spW_of {n : Nat} {ds : List D} (h : WT Tryz.prog (n + 2) 23 ds) : ∃ s : Water.Sp, ds = s.enc := by
  obtain ⟨s, rfl⟩ := spT_of h
  exact ⟨⟨s.lo, s.hi⟩, rfl⟩
set_option maxRecDepth 100000 in
theorem ti_of {n : Nat} {ds : List D} (h : WT Tryz.prog (n + 3) 104 ds) : ∃ t : Tide.Ti, ds = t.enc := by
  obtain ⟨a, r, rfl, _, ha, c, r2, rfl, _, hc, e, r3, rfl, _, he, rfl⟩ := wt_struct Tryz.underlying104 h
  obtain ⟨l, rfl, _⟩ := wt_int Tryz.underlying3 ha
  obtain ⟨u, rfl⟩ := spT_of hc
  obtain ⟨v, rfl⟩ := spT_of he
  exact ⟨⟨l, u, v⟩, rfl⟩
set_option maxRecDepth 100000 in
theorem yd_of {n : Nat} {ds : List D} (h : WT Tryz.prog (n + 2) 55 ds) : ∃ y : Water.Yd, ds = y.enc := by
  obtain ⟨a, r, rfl, _, ha, b, r2, rfl, _, hb, c, r3, rfl, _, hc, rfl⟩ := wt_struct Tryz.underlying55 h
  obtain ⟨s, rfl, _⟩ := wt_string Tryz.underlying9 ha
  obtain ⟨x, rfl, _⟩ := wt_int Tryz.underlying3 hb
  obtain ⟨y, rfl, _⟩ := wt_int Tryz.underlying3 hc
  exact ⟨⟨s, x, y⟩, rfl⟩
set_option maxRecDepth 100000 in
theorem be_of {n : Nat} {d : D} (h : WA Tryz.prog (n + 5) 26 d) : ∃ b : Tide.Be, d = .agg b.enc := by
  obtain ⟨ds, rfl, g⟩ := wa_struct Tryz.underlying26 h
  obtain ⟨a, r, rfl, _, ha, c, r2, rfl, _, hc, e, r3, rfl, _, he, f, r4, rfl, _, hf, rfl⟩ := wt_struct Tryz.underlying26 g
  obtain ⟨sl, rfl⟩ := spT_of ha
  obtain ⟨ma, rfl⟩ := spT_of hc
  obtain ⟨bi, rfl, _⟩ := wt_int Tryz.underlying3 he
  obtain ⟨rows, rfl, hl, hr⟩ := wt_slice Tryz.underlying24 hf
  rw [cell104]
  obtain ⟨l, rfl, _⟩ := rows_map (enc := Tide.Ti.enc) (p := fun _ => True) fun row hrow => by
    obtain ⟨t, ht⟩ := ti_of (hr row hrow).2
    exact ⟨t, ht, trivial⟩
  exact ⟨⟨sl, ma, bi, l⟩, rfl⟩
set_option maxRecDepth 100000 in
theorem sh_of {n : Nat} {d : D} (h : WA Tryz.prog (n + 5) 28 d) : ∃ s : Tide.Sh, d = .agg s.enc := by
  obtain ⟨ds, rfl, g⟩ := wa_struct Tryz.underlying28 h
  obtain ⟨a, r, rfl, _, ha, c, r2, rfl, _, hc, rfl⟩ := wt_struct Tryz.underlying28 g
  obtain ⟨sl, rfl⟩ := spT_of ha
  obtain ⟨bi, rfl, _⟩ := wt_int Tryz.underlying3 hc
  exact ⟨⟨sl, bi⟩, rfl⟩
set_option maxRecDepth 100000 in
theorem shore_of {n : Nat} {ds : List D} (h : WT Tryz.prog (n + 5) 32 ds) : ∃ s : Water.Sh, ds = s.enc := by
  obtain ⟨a, r, rfl, _, ha, c, r2, rfl, _, hc, e, r3, rfl, _, he, rfl⟩ := wt_struct Tryz.underlying32 h
  obtain ⟨rows, rfl, hl, hr⟩ := wt_slice Tryz.underlying29 ha
  obtain ⟨rows', rfl, hl', hr'⟩ := wt_slice Tryz.underlying30 hc
  obtain ⟨s3, rfl, _⟩ := wt_int Tryz.underlying3 he
  rw [cell55, cell23]
  obtain ⟨l, rfl, _⟩ := rows_map (enc := Water.Yd.enc) (p := fun _ => True) fun row hrow => by
    obtain ⟨t, ht⟩ := yd_of (hr row hrow).2
    exact ⟨t, ht, trivial⟩
  obtain ⟨l', rfl, _⟩ := rows_map (enc := Water.Sp.enc) (p := fun _ => True) fun row hrow => by
    obtain ⟨t, ht⟩ := spW_of (hr' row hrow).2
    exact ⟨t, ht, trivial⟩
  exact ⟨⟨l, l', s3⟩, rfl⟩
set_option maxRecDepth 100000 in
theorem u16s_of {n : Nat} {ds : List D} (h : WT Tryz.prog (n + 3) 33 ds) : ∃ l : List Int, ds = [.list 1 (l.map Water.enc16)] ∧ Water.inL l 65536 ∧ l.length ≤ maxLen := by
  obtain ⟨rows, rfl, hl, hr⟩ := wt_slice Tryz.underlying33 h
  rw [cell121]
  obtain ⟨l, rfl, hp⟩ := rows_map (enc := Water.enc16) (p := fun v => 0 ≤ v ∧ v < 65536) fun row hrow => by
    obtain ⟨x, rfl, hx⟩ := wt_int Tryz.underlying121 (hr row hrow).2
    exact ⟨x, rfl, u16_of hx⟩
  exact ⟨l, rfl, hp, by simpa using hl⟩
set_option maxRecDepth 100000 in
theorem past_of {n : Nat} {ds : List D} (h : WT Tryz.prog (n + 5) 38 ds) : ∃ p : Water.Past, ds = p.enc ∧ p.Ok := by
  obtain ⟨a, r, rfl, _, ha, c, r2, rfl, _, hc, e, r3, rfl, _, he, rfl⟩ := wt_struct Tryz.underlying38 h
  obtain ⟨l, rfl, hl, _⟩ := u16s_of ha
  obtain ⟨m, rfl, hm⟩ := wt_int Tryz.underlying36 hc
  obtain ⟨t, rfl, ht, _⟩ := u16s_of he
  have hm := u32_of hm
  obtain ⟨k, rfl⟩ : ∃ k : Nat, m = k := ⟨m.toNat, by omega⟩
  exact ⟨⟨l, k, t⟩, rfl, ⟨hl, by show k < 2 ^ 32; omega, ht⟩⟩
set_option maxRecDepth 100000 in
theorem run_of {n : Nat} {ds : List D} (h : WT Tryz.prog (n + 5) 35 ds) : ∃ (x : Nat) (y : Int) (xs : List Int), ds = [.int .u8 x, .int .u8 y, Tide.u16s xs] ∧ x ≤ 255 ∧ (0 ≤ y ∧ y ≤ 255) ∧ (∀ v ∈ xs, 0 ≤ v ∧ v ≤ 65535) ∧ xs.length ≤ maxLen := by
  obtain ⟨a, r, rfl, _, ha, c, r2, rfl, _, hc, e, r3, rfl, _, he, rfl⟩ := wt_struct Tryz.underlying35 h
  obtain ⟨x, rfl, hx⟩ := wt_int Tryz.underlying5 ha
  obtain ⟨y, rfl, hy⟩ := wt_int Tryz.underlying5 hc
  obtain ⟨l, rfl, hl, hll⟩ := u16s_of he
  have hx := u8_of hx
  have hy := u8_of hy
  obtain ⟨k, rfl⟩ : ∃ k : Nat, x = k := ⟨x.toNat, by omega⟩
  exact ⟨k, y, l, rfl, by omega, by omega, fun v hv => by have := hl v hv; omega, hll⟩
set_option maxRecDepth 100000 in
theorem shored_of {n : Nat} {d : D} (h : WA Tryz.prog (n + 8) 42 d) : ∃ (w : Water.Sh) (x : Nat) (y : Int) (xs : List Int) (p : Water.Past), d = .agg (runEnc w x y xs p) ∧ x ≤ 255 ∧ (0 ≤ y ∧ y ≤ 255) ∧ (∀ v ∈ xs, 0 ≤ v ∧ v ≤ 65535) ∧ xs.length ≤ maxLen ∧ p.Ok := by
  obtain ⟨ds, rfl, g⟩ := wa_struct Tryz.underlying42 h
  obtain ⟨a, r, rfl, _, ha, c, r2, rfl, _, hc, rfl⟩ := wt_struct Tryz.underlying42 g
  obtain ⟨w, rfl⟩ := shore_of ha
  obtain ⟨a', r', rfl, _, ha', c', r2', rfl, _, hc', rfl⟩ := wt_struct Tryz.underlying40 hc
  obtain ⟨x, y, xs, rfl, h1, h2, h3, h4⟩ := run_of ha'
  obtain ⟨p, rfl, hp⟩ := past_of hc'
  exact ⟨w, x, y, xs, p, rfl, h1, h2, h3, h4, hp⟩

theorem Tryz.own : ownKnob Tryz.prog.godebug = none := by kernel_rfl
theorem Tryz.laidOut : laidOutB Tryz.prog = true := by kernel_rfl

abbrev laidL : List (String × DataW Unit) := Rows.topDrainedRow.laid
theorem gTab : Tryz.prog.globalNamed "math/bits.deBruijn64tab" = some 1 := by kernel_rfl
theorem gTabType : (Tryz.prog.globals[1]?).map (·.type) = some 182 := by kernel_rfl
theorem cells182 : Tryz.prog.cellsOf 182 = 64 := by kernel_rfl

theorem table {W : World} (h : laidMetH Tryz.prog laidL W) : Lib.TabIs Tryz.prog W "math/bits.deBruijn64tab" .u8 tab64 := by
  have h' : laidMet Tryz.prog (("math/bits.deBruijn32tab", Rows.laid_math_bits_deBruijn32tab) :: ("math/bits.deBruijn64tab", Lib.tabData .u8 tab64) :: []) W := h
  exact Lib.tabIs_of_head (rest := []) gTab gTabType Tryz.underlying182 Tryz.underlying5 cell5 cells182 (laidMet.tail h')

theorem hgl (W : World) (h : laidMetH Tryz.prog laidL W) : glbI.le (allOf W) := by
  intro B off v hv
  unfold glbI at hv
  match B, hv with
  | 1, hv =>
    cases ht : tab64[off]? with
    | none => simp [Glb.tab, ht] at hv
    | some n =>
      simp [Glb.tab, ht] at hv
      subst hv
      have hlt := (List.getElem?_eq_some_iff.1 ht).1
      have h1 := (table h).cell gTab off hlt
      rw [List.getD_eq_getElem?_getD, ht] at h1
      have h1 : W.cell? ⟨1, off, none⟩ = some (.int .u8 n) := h1
      show cellM W 1 off = _
      unfold cellM
      cases hH : W.heap[1]? with
      | none => simp only [h1]; rfl
      | some o =>
        cases o with
        | map es c => unfold World.cell? at h1; rw [hH] at h1; cases h1
        | _ => simp only [h1]; rfl
  | 0, hv => simp [Glb.tab] at hv
  | n + 2, hv => simp [Glb.tab] at hv

def tab32 : List Int := [0, 1, 28, 2, 29, 14, 24, 3, 30, 22, 20, 15, 25, 17, 4, 8, 31, 27, 13, 23, 21, 19, 16, 7, 26, 12, 18, 6, 11, 5, 10, 9]
/-- A table's cells are laid. -/
noncomputable def layT (l : List Int) : Obj → Obj
  | .cells _ t frozen => .cells ((l.map fun n => Value.int .u8 n).toArray) t frozen
  | o => o
/-- A world for the witness: the tables hold what the program's text lays. -/
noncomputable def laidWorld (os : Os) (args : Array Value) : World :=
  { World.holding Tryz.prog os ⟨#[], args, []⟩ with heap := (((World.holding Tryz.prog os ⟨#[], args, []⟩).heap.modify 0 (layT tab32)).modify 1 (layT tab64)) }

end Go.Proofs.Top
