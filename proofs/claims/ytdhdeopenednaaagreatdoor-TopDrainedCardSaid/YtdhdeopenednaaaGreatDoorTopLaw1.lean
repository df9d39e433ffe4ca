/- TopDrained: a ship that was run ashore is one more yard along the shore, at the place where she stops. No condition. -/
import Derived.Test.YtdhdeopenednaaaGreatDoorPackXM

namespace Go.Proofs.YtdhdeopenednaaaGreatDoor
open Go.V Go.Proofs Go.Proofs.Top Go.RowKit Go.ChangeShapes Go.WideShapes Go.ChangeAt

set_option maxRecDepth 100000 in
theorem law_den (es : List D) (h : WAL Tryz.prog 10 Tryz.f3.params.toList es) : Den Tryz.prog 3 es (.bool true) := by
  rw [Tryz.params3] at h
  obtain ⟨d1, r1, rfl, h1, d2, r2, rfl, h2, d3, r3, rfl, h3, rfl⟩ := h
  obtain ⟨b, rfl⟩ := be_of h1
  obtain ⟨s, rfl⟩ := sh_of h2
  obtain ⟨w, x, y, xs, p, rfl, hx, hy, hxs, hxl, hp⟩ := shored_of h3
  exact den3 b s w x y xs p hx hy.1 hy.2 hxs (by unfold maxLen at hxl; omega) hp

abbrev law_args : Array Value := #[.agg #[.int .i64 0, .int .i64 0, .int .i64 0, .int .i64 0, .int .i64 0, .slice none 0 0], .agg #[.int .i64 0, .int .i64 0, .int .i64 0], .agg #[.slice none 0 0, .slice none 0 0, .int .i64 0, .int .u8 0, .int .u8 0, .slice none 0 0, .slice none 0 0, .int .u32 0, .slice none 0 0]]
set_option maxRecDepth 100000 in
theorem law_met (os : Os) : laidMet Tryz.prog Rows.topDrainedRow.laid ((laidWorld os law_args).forCall (fun _ _ => 0) ⟨#[], law_args, []⟩).memory :=
  laidMet_of_run' 8 (by kernel_rfl) (by kernel_rfl)

set_option maxRecDepth 100000 in
theorem law_lifted (os : Os) (started : os.Started) (H : Type) (enc : TypeId × Value → H) (F : Stop.Interp) :
    ReturnsInHanded {} Tryz.checked os 3 .any ((OpenSpec.ofChange Rows.topDrainedSpec).preRow enc Tryz.prog Tryz.f3 Rows.topDrainedRow.domain false Rows.topDrainedRow.laid) (((OpenSpec.ofChange Rows.topDrainedSpec).at F).post enc Tryz.prog Tryz.f3 false true false false) :=
  law_returns_laid (C := Tryz.checked) (F := F) hgl 10 rfl (fun ds hd => by
      match ds, hd with
      | [_, _, _], _ => rfl) Tryz.own started (by kernel_rfl) Tryz.func3
    (witness_row_at (enc := enc) (C := Tryz.checked) false (laidWorld os law_args) law_args rfl (by kernel_rfl) (by kernel_rfl) (by kernel_rfl)
      (OpenSpec.preRow_of_B rfl 8 (by kernel_rfl) (by kernel_rfl) (law_met os)))
    rfl Tryz.underlying4 Tryz.laidOut (by kernel_rfl) law_den

theorem law_said : Rows.TopDrainedSaid :=
  OpenClaim.holds_of_cond 3 Tryz.f3 rfl rfl rfl rfl rfl rfl rfl ⟨rfl, rfl, rfl, rfl, rfl⟩ rfl rfl rfl rfl rfl (by kernel_rfl) Tryz.func3 (by kernel_rfl)
    (of_decide_eq_true (by kernel_rfl)) (by unfold Func.isWrapper; first | (rw [if_pos (by decide +kernel)]; kernel_rfl) | (rw [if_neg (by decide +kernel)]; exact ⟨rfl, rfl⟩))
    (fun os started H enc _ F => by rw [OpenClaim.pre_eq_preRow]; exact law_lifted os started H enc F)

set_option maxRecDepth 100000 in
theorem law_plain (f : FuncId) (fn : Func) (hf : Tryz.pinned.checked.prog.funcNamed "orlop/orloptop.TopDrained" = some f) (hfn : Tryz.pinned.checked.prog.funcs[f]? = some fn) :
    false = Tryz.pinned.checked.prog.looks [] ∧ ∀ (j : Nat) t, fn.params[j]? = some t → Tryz.pinned.checked.prog.wantsStandIn t = false := by
  obtain rfl : f = 3 := Option.some.inj ((show Tryz.prog.funcNamed "orlop/orloptop.TopDrained" = some 3 by kernel_rfl).symm.trans hf) |>.symm
  obtain rfl : fn = Tryz.f3 := (Option.some.inj (Tryz.func3.symm.trans hfn)).symm
  refine ⟨by kernel_rfl, fun j t ht => ?_⟩
  have h : ∀ t ∈ Tryz.f3.params.toList, Tryz.prog.wantsStandIn t = false := by
    rw [Tryz.params3]
    exact List.all_eq_true.1 (show ([26, 28, 42] : List TypeId).all (fun t => !(Tryz.prog.wantsStandIn t)) = true by kernel_rfl) |> fun h t ht => by simpa using h t ht
  exact h t (by simpa using Array.mem_of_getElem? ht)

theorem drained_holds : Rows.TopDrainedCardSaid :=
  Claim7.holds_tied_plain_at .later [] _ _ _ _ law_said (fun _ h => by cases h) (by kernel_rfl) (fun _ h => by cases h) topDrained_row_tie rfl ⟨rfl, rfl⟩ (by kernel_rfl) rfl law_plain (by kernel_rfl)

end Go.Proofs.YtdhdeopenednaaaGreatDoor
