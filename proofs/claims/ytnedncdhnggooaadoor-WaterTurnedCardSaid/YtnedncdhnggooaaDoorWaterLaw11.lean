/- water: if all is measured from the other end of the shore, and drifts the other way, yards are the same ones; so they are if yards and places are all moved by the same length. No condition. -/
import Derived.Test.YtnedncdhnggooaaDoorPackWP
import Derived.Test.YtnedncdhnggooaaDoorPackWQ
import Derived.Test.YtnedncdhnggooaaDoorPackWF

namespace Go.Proofs.YtnedncdhnggooaaDoor
open Go.V Go.Proofs Go.Proofs.Water Go.RowKit Go.ChangeShapes Go.WideShapes Go.ChangeAt

set_option maxRecDepth 100000 in
theorem law_den (es : List D) (h : WAL Tryd.prog 10 Tryd.f13.params.toList es) : Den Tryd.prog 13 es (.bool true) := by
  rw [Tryd.params13] at h
  obtain ⟨d1, r1, rfl, h1, d2, r2, rfl, h2, d3, r3, rfl, h3, rfl⟩ := h
  obtain ⟨s, rfl, _⟩ := shore_of h1
  obtain ⟨l, rfl, _⟩ := smps_of h2
  obtain ⟨a, b, rfl, ha, hb, hb'⟩ := pair_of h3
  exact den13 s l a b ha ⟨hb, hb'⟩

abbrev law_args : Array Value := #[.agg #[.slice none 0 0, .slice none 0 0, .int .i64 0], .slice none 0 0, .agg #[.int .u8 0, .int .u8 0]]
set_option maxRecDepth 100000 in
theorem law_met (os : Os) : laidMet Tryd.prog Rows.waterTurnedRow.laid ((laidWorld os law_args).forCall (fun _ _ => 0) ⟨#[], law_args, []⟩).memory :=
  laidMet_of_run' 8 (by kernel_rfl) (by kernel_rfl)

set_option maxRecDepth 100000 in
theorem law_lifted (os : Os) (started : os.Started) (H : Type) (enc : TypeId × Value → H) (F : Stop.Interp) :
    ReturnsInHanded {} Tryd.checked os 13 .any ((OpenSpec.ofChange Rows.waterTurnedSpec).preRow enc Tryd.prog Tryd.f13 Rows.waterTurnedRow.domain false Rows.waterTurnedRow.laid) (((OpenSpec.ofChange Rows.waterTurnedSpec).at F).post enc Tryd.prog Tryd.f13 false true false false) :=
  law_returns_laid (C := Tryd.checked) (F := F) hgl 10 rfl (fun ds hd => by
      match ds, hd with
      | [_, _, _], _ => rfl) Tryd.own started (by kernel_rfl) Tryd.func13
    (witness_row_at (enc := enc) (C := Tryd.checked) false (laidWorld os law_args) law_args rfl (by kernel_rfl) (by kernel_rfl) (by kernel_rfl)
      (OpenSpec.preRow_of_B rfl 8 (by kernel_rfl) (by kernel_rfl) (law_met os)))
    rfl Tryd.underlying4 Tryd.laidOut (by kernel_rfl) law_den

theorem law_said : Rows.WaterTurnedSaid :=
  OpenClaim.holds_of_cond 13 Tryd.f13 rfl rfl rfl rfl rfl rfl rfl ⟨rfl, rfl, rfl, rfl, rfl⟩ rfl rfl rfl rfl rfl (by kernel_rfl) Tryd.func13 (by kernel_rfl)
    (of_decide_eq_true (by kernel_rfl)) (by unfold Func.isWrapper; first | (rw [if_pos (by decide +kernel)]; kernel_rfl) | (rw [if_neg (by decide +kernel)]; exact ⟨rfl, rfl⟩))
    (fun os started H enc _ F => by rw [OpenClaim.pre_eq_preRow]; exact law_lifted os started H enc F)

set_option maxRecDepth 100000 in
theorem law_plain (f : FuncId) (fn : Func) (hf : Tryd.pinned.checked.prog.funcNamed "orlop/orloplaw12.WaterTurned" = some f) (hfn : Tryd.pinned.checked.prog.funcs[f]? = some fn) :
    false = Tryd.pinned.checked.prog.looks [] ∧ ∀ (j : Nat) t, fn.params[j]? = some t → Tryd.pinned.checked.prog.wantsStandIn t = false := by
  obtain rfl : f = 13 := Option.some.inj ((show Tryd.prog.funcNamed "orlop/orloplaw12.WaterTurned" = some 13 by kernel_rfl).symm.trans hf) |>.symm
  obtain rfl : fn = Tryd.f13 := (Option.some.inj (Tryd.func13.symm.trans hfn)).symm
  refine ⟨by kernel_rfl, fun j t ht => ?_⟩
  have h : ∀ t ∈ Tryd.f13.params.toList, Tryd.prog.wantsStandIn t = false := by
    rw [Tryd.params13]
    exact List.all_eq_true.1 (show ([25, 26, 80] : List TypeId).all (fun t => !(Tryd.prog.wantsStandIn t)) = true by kernel_rfl) |> fun h t ht => by simpa using h t ht
  exact h t (by simpa using Array.mem_of_getElem? ht)

theorem turned_holds : Rows.WaterTurnedCardSaid :=
  Claim7.holds_tied_plain_at .later [] _ _ _ _ law_said (fun _ h => by cases h) (by kernel_rfl) (fun _ h => by cases h) waterTurned_row_tie rfl ⟨rfl, rfl⟩ (by kernel_rfl) rfl law_plain (by kernel_rfl)

end Go.Proofs.YtnedncdhnggooaaDoor
