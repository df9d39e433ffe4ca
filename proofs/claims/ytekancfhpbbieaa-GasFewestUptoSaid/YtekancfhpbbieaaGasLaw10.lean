/- gas: GasFewest, where what it reads is of bulk at most 1048576: readings at the minutes of Fewest let a torch burn at each minute, and no fewer minutes cover. No condition. -/
import Derived.Test.YtekancfhpbbieaaRows
import Derived.Test.YtekancfhpbbieaaPackHI
import Derived.Test.YtekancfhpbbieaaPackGF

namespace Go.Proofs.Ytekancfhpbbieaa
open Go.V Go.Proofs Go.Proofs.Gas

theorem bulk_one {H : Type} (d : DataW H) : 1 ≤ Rows.uptoBulk d := by
  cases d with
  | lit l => cases l <;> simp [Rows.uptoBulk]
  | nil => simp [Rows.uptoBulk]
  | ptr d => simp [Rows.uptoBulk]
  | slice elems spare => simp [Rows.uptoBulk]
  | agg parts => simp [Rows.uptoBulk]
  | iface t d => simp [Rows.uptoBulk]
  | map entries => simp [Rows.uptoBulk]
  | held h => simp [Rows.uptoBulk]
theorem bulk_len {H : Type} : ∀ l : List (DataW H), l.length ≤ Rows.uptoBulkAll l
  | [] => Nat.zero_le _
  | x :: r => by
    have h1 := bulk_one x
    have h2 := bulk_len r
    simp only [Rows.uptoBulkAll, List.length_cons]
    omega
theorem bulk_part {H : Type} {d : DataW H} : ∀ {l : List (DataW H)}, d ∈ l → Rows.uptoBulk d ≤ Rows.uptoBulkAll l
  | [], h => by cases h
  | x :: r, h => by
    simp only [Rows.uptoBulkAll]
    rcases List.mem_cons.1 h with rfl | h
    · omega
    · have := bulk_part h
      omega

set_option maxRecDepth 100000 in
theorem law_den (es : List D) (h : WAL Try.prog 10 Try.f12.params.toList es) (hl : RowsN 1048576 es) : Den Try.prog 12 es (.bool true) := by
  rw [Try.params12] at h
  obtain ⟨d1, r1, rfl, h1, d2, r2, rfl, h2, rfl⟩ := h
  obtain ⟨s, rfl, _⟩ := space_of h1
  obtain ⟨x, rfl, hx⟩ := ro_of h2 (fun sz rows hm => hl 1 d2 rfl sz rows hm)
  exact den12 s x hx

set_option maxRecDepth 100000 in
theorem law_lifted (os : Os) (started : os.Started) (H : Type) (enc : TypeId × Value → H) (F : Stop.Interp) :
    ReturnsInHanded {} Try.checked os 12 .any ((Rows.OpenSpec.upto Rows.gasFewestSpec).pre6 enc Try.prog Try.f12 Rows.gasFewestUptoRow.domain false) (((Rows.OpenSpec.upto Rows.gasFewestSpec).at F).post enc Try.prog Try.f12 false true false false) :=
  law_returns_upto (C := Try.checked) (s := Rows.OpenSpec.upto Rows.gasFewestSpec) (k := Rows.uptoSmall) rfl 10 1048576 rfl (fun ds hd => by
      match ds, hd with
      | [_, _], _ => rfl)
    (Bk := Rows.uptoBulk) (fun es sp => by have := bulk_len es; simp only [Rows.uptoBulk]; omega) (fun l d hd => by have := bulk_part hd; simp only [Rows.uptoBulk]; omega)
    (fun ds hk d hd => by
      have h : Rows.uptoBulkAll (ds ++ []) ≤ 1048576 := of_decide_eq_true hk
      rw [List.append_nil] at h
      exact Nat.le_trans (bulk_part hd) h)
    Try.own started (by kernel_rfl) Try.func12
    (OpenSpec.witness (enc := enc) (C := Try.checked) (s := Rows.OpenSpec.upto Rows.gasFewestSpec) (k := Rows.uptoSmall) rfl false ⟨#[], #[.agg #[.int .i64 0, .int .i64 0, .int .i64 0, .int .i64 0, .int .i64 0, .int .i64 0, .int .i64 0, .slice none 0 0, .slice none 0 0], .agg #[.int .u8 0, .int .i16 0, .int .u8 0, .int .u8 0, .slice none 0 0, .slice none 0 0, .slice none 0 0]], []⟩ 8 (by kernel_rfl) (by kernel_rfl) (by kernel_rfl)
      (x := ([.agg [.agg [.lit (.int .i64 0), .lit (.int .i64 0)], .agg [.lit (.int .i64 0), .lit (.int .i64 0)], .agg [.lit (.int .i64 0), .lit (.int .i64 0)], .lit (.int .i64 0), .nil, .nil], .agg [.lit (.int .u8 0), .lit (.int .i16 0), .lit (.int .u8 0), .lit (.int .u8 0), .nil, .nil, .nil]], [], [])) (by kernel_rfl) rfl (by kernel_rfl))
    rfl Try.underlying4 Try.laidOut (by kernel_rfl) law_den

theorem fewest_holds : Rows.GasFewestUptoSaid :=
  OpenClaim.holds_of_cond 12 Try.f12 rfl rfl rfl rfl rfl rfl rfl ⟨rfl, rfl, rfl, rfl, rfl⟩ rfl rfl rfl rfl rfl (by kernel_rfl) Try.func12 (by kernel_rfl)
    (of_decide_eq_true (by kernel_rfl)) (by unfold Func.isWrapper; rw [if_neg (by decide +kernel)]; exact ⟨rfl, rfl⟩)
    (fun os started H enc _ F => law_lifted os started H enc F)

end Go.Proofs.Ytekancfhpbbieaa
