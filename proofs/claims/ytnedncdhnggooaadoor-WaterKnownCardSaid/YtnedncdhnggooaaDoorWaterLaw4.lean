/- water: the examples of the document. No condition. -/
import Derived.Test.YtnedncdhnggooaaDoorPackWH
import Derived.Test.YtnedncdhnggooaaDoorPackWF

namespace Go.Proofs.YtnedncdhnggooaaDoor
open Go.V Go.Proofs Go.Proofs.Water Go.RowKit Go.ChangeShapes Go.WideShapes Go.ChangeAt

set_option maxRecDepth 100000 in
theorem law_den (es : List D) (h : WAL Tryd.prog 10 Tryd.f6.params.toList es) : Den Tryd.prog 6 es (.bool true) := by
  rw [Tryd.params6] at h
  obtain rfl := h
  exact den6

abbrev law_args : Array Value := #[]
set_option maxRecDepth 100000 in
theorem law_met (os : Os) : laidMet Tryd.prog Rows.waterKnownRow.laid ((laidWorld os law_args).forCall (fun _ _ => 0) ⟨#[], law_args, []⟩).memory :=
  laidMet_of_run' 8 (by kernel_rfl) (by kernel_rfl)

set_option maxRecDepth 100000 in
theorem law_lifted (os : Os) (started : os.Started) (H : Type) (enc : TypeId × Value → H) (F : Stop.Interp) :
    ReturnsInHanded {} Tryd.checked os 6 .any ((OpenSpec.ofChange Rows.waterKnownSpec).preRow enc Tryd.prog Tryd.f6 Rows.waterKnownRow.domain false Rows.waterKnownRow.laid) (((OpenSpec.ofChange Rows.waterKnownSpec).at F).post enc Tryd.prog Tryd.f6 false true false false) :=
  law_returns_laid (C := Tryd.checked) (F := F) hgl 10 rfl (fun ds hd => by
      match ds, hd with
      | [], _ => rfl) Tryd.own started (by kernel_rfl) Tryd.func6
    (witness_row_at (enc := enc) (C := Tryd.checked) false (laidWorld os law_args) law_args rfl (by kernel_rfl) (by kernel_rfl) (by kernel_rfl)
      (OpenSpec.preRow_of_B rfl 8 (by kernel_rfl) (by kernel_rfl) (law_met os)))
    rfl Tryd.underlying4 Tryd.laidOut (by kernel_rfl) law_den

theorem law_said : Rows.WaterKnownSaid :=
  OpenClaim.holds_of_cond 6 Tryd.f6 rfl rfl rfl rfl rfl rfl rfl ⟨rfl, rfl, rfl, rfl, rfl⟩ rfl rfl rfl rfl rfl (by kernel_rfl) Tryd.func6 (by kernel_rfl)
    (of_decide_eq_true (by kernel_rfl)) (by unfold Func.isWrapper; first | (rw [if_pos (by decide +kernel)]; kernel_rfl) | (rw [if_neg (by decide +kernel)]; exact ⟨rfl, rfl⟩))
    (fun os started H enc _ F => by rw [OpenClaim.pre_eq_preRow]; exact law_lifted os started H enc F)

set_option maxRecDepth 100000 in
theorem law_plain (f : FuncId) (fn : Func) (hf : Tryd.pinned.checked.prog.funcNamed "orlop/orloplaw12.WaterKnown" = some f) (hfn : Tryd.pinned.checked.prog.funcs[f]? = some fn) :
    false = Tryd.pinned.checked.prog.looks [] ∧ ∀ (j : Nat) t, fn.params[j]? = some t → Tryd.pinned.checked.prog.wantsStandIn t = false := by
  obtain rfl : f = 6 := Option.some.inj ((show Tryd.prog.funcNamed "orlop/orloplaw12.WaterKnown" = some 6 by kernel_rfl).symm.trans hf) |>.symm
  obtain rfl : fn = Tryd.f6 := (Option.some.inj (Tryd.func6.symm.trans hfn)).symm
  refine ⟨by kernel_rfl, fun j t ht => ?_⟩
  have h : Tryd.f6.params = #[] := by apply Array.toList_inj.1; rw [Tryd.params6]
  rw [h] at ht
  simp at ht

theorem known_holds : Rows.WaterKnownCardSaid :=
  Claim7.holds_tied_plain_at .later [] _ _ _ _ law_said (fun _ h => by cases h) (by kernel_rfl) (fun _ h => by cases h) waterKnown_row_tie rfl ⟨rfl, rfl⟩ (by kernel_rfl) rfl law_plain (by kernel_rfl)

end Go.Proofs.YtnedncdhnggooaaDoor
