/- A law's statement from its contract on abstract values: a row that lists tables. No condition. -/
import Derived.Deep.DeepHandedRow
import Derived.Lib.LaidTab
import Derived.Test.YtdhdeopenednaaaGreatDoorPackVL

namespace Go.V
open Go.RowKit Go.ChangeShapes

section
variable {H : Type} {enc : TypeId × Value → H} {P : Program} {w w' : World}

/-- A LAW's STATEMENT, but for its closed facts, from its contract; the row lists tables. -/
theorem law_returns_laid [Glb] {C : Checked} {os : Os} {f : FuncId} {fn : Func} {s : ChangeSpec} {F : Stop.Interp} {laid : List (String × DataW Unit)} (hgl : ∀ W : World, laidMetH C.prog laid W → glbI.le (allOf W))
    (n : Nat) (hs : s.vars = []) (hspec : ∀ ds : List (DataW H), ds.length = fn.params.toList.length → s.fn H (ds ++ []) = { results := [.lit (.bool true)], args := ds })
    (own : ownKnob C.prog.godebug = none) (started : os.Started) (noInit : C.prog.inits.idxOf? f = none) (hfn : C.prog.funcs[f]? = some fn)
    (witness : ∃ (w : World) (tape : Tape) (i : Input), w.os = os ∧ (w.forCall tape i).Shaped C.prog ∧ i.vars = [] ∧ Input.okWide C.prog (w.forCall tape i) .any w.heap.size f i ∧
      (OpenSpec.ofChange s).preRow enc C.prog fn [] false laid (w.forCall tape i).memory i.args ∧ ({} : Assume).holds C.prog (lone (Frame.enter C.prog f i.args .normal) [] (w.forCall tape i)))
    {tb : TypeId} (hres : fn.resultTypes = #[tb]) (hbool : C.prog.underlying tb = some .bool) (hl : laidOutB C.prog = true)
    (hall : (fn.params.toList.all fun t => C.prog.readableRec t && Nat.blt t C.prog.types.size && sup C.prog n t) = true) (hden : ∀ es, WAL C.prog n fn.params.toList es → Den C.prog f es (.bool true)) :
    ReturnsInHanded {} C os f .any ((OpenSpec.ofChange s).preRow enc C.prog fn [] false laid) (((OpenSpec.ofChange s).at F).post enc C.prog fn false true false false) := by
  have h : ∀ t ∈ fn.params.toList, (C.prog.readableRec t = true ∧ t < C.prog.types.size) ∧ sup C.prog n t = true := fun t ht => by
    have := List.all_eq_true.1 hall t ht
    simp only [Bool.and_eq_true] at this
    exact ⟨⟨this.1.1, blt_lt this.1.2⟩, this.2⟩
  refine returnsInHanded_of_row own started noInit hfn witness ?_
  intro W base args ds gs before hval hW _ _ _ hL _ _
  have hW' := hW
  obtain ⟨p, q, hA, hV, rfl, hfz, hnd⟩ := hW
  rw [show (OpenSpec.ofChange s).vars = [] from hs] at hV
  obtain ⟨hlen, es, hes1, hes2⟩ := open_all fn.params.toList args.toList ds p (fun t ht => (h t ht).2) (fun j t v hj hv => hval j t v (by simpa using hj) (by simpa using hv)) hA
  obtain ⟨rfl, rfl⟩ := trodVars_none hV
  have hcall := (hden es hes2).2 W (allOf W) args.toList (fun B off v h => h) (hgl W hL) hes1
  rw [show args.toList.toArray = args from rfl] at hcall
  refine hcall.mono ?_
  rintro e W' ⟨v, I', rfl, hk, _, _, hrel⟩
  have hv := hrel.bool_inv
  subst hv
  have hspec' : ((OpenSpec.ofChange s).at F).fn H (ds ++ []) = { results := [.lit (.bool true)], args := ds } := hspec ds hlen
  refine ⟨_, rfl, ds, [], p ++ [], [], p, [], hW', ?_, ?_, ?_, ?_, fun h => by cases h⟩
  · rw [hspec', hres]
    exact trodAll_mk1 (shut_bool hbool true)
  · rw [hspec']
    exact shut_all hl hk _ _ _ _ (fun t ht => (h t ht).1) hA
  · rw [hspec', show ((OpenSpec.ofChange s).at F).vars = [] from hs]
    exact rfl
  · refine ⟨hk.os, hk.output, fun i hi => ?_⟩
    rw [hk.block i hi]
    cases hO : W.heap[i]? with
    | none => rfl
    | some o =>
      cases o with
      | cells c t fr => exact ⟨rfl, rfl, rfl, fun _ _ => rfl⟩
      | map es clock => exact .inr ⟨rfl, rfl⟩
      | _ => rfl

/-- The same at arguments within the form's reach. -/
theorem law_returns_laid_sized [Glb] {C : Checked} {os : Os} {f : FuncId} {fn : Func} {s : ChangeSpec} {F : Stop.Interp} {laid : List (String × DataW Unit)} (hgl : ∀ W : World, laidMetH C.prog laid W → glbI.le (allOf W))
    (n : Nat) (hs : s.vars = []) (hspec : ∀ ds : List (DataW H), ds.length = fn.params.toList.length → s.fn H (ds ++ []) = { results := [.lit (.bool true)], args := ds })
    (own : ownKnob C.prog.godebug = none) (started : os.Started) (noInit : C.prog.inits.idxOf? f = none) (hfn : C.prog.funcs[f]? = some fn)
    (witness : ∃ (w : World) (tape : Tape) (i : Input), w.os = os ∧ (w.forCall tape i).Shaped C.prog ∧ i.vars = [] ∧ Input.okWide C.prog (w.forCall tape i) .any w.heap.size f i ∧
      (OpenSpec.ofChange s).preRow enc C.prog fn [] false laid (w.forCall tape i).memory i.args ∧ ({} : Assume).holds C.prog (lone (Frame.enter C.prog f i.args .normal) [] (w.forCall tape i)))
    {tb : TypeId} (hres : fn.resultTypes = #[tb]) (hbool : C.prog.underlying tb = some .bool) (hl : laidOutB C.prog = true)
    (hall : (fn.params.toList.all fun t => C.prog.readableRec t && Nat.blt t C.prog.types.size && sup C.prog n t) = true) (hden : ∀ es, WAL C.prog n fn.params.toList es → SlW C.prog fn.params.toList es → Den C.prog f es (.bool true)) :
    ReturnsInHanded {} C os f .any ((OpenSpec.ofChange s).preRow enc C.prog fn [] false laid) (((OpenSpec.ofChange s).at F).post enc C.prog fn false true false false) := by
  have h : ∀ t ∈ fn.params.toList, (C.prog.readableRec t = true ∧ t < C.prog.types.size) ∧ sup C.prog n t = true := fun t ht => by
    have := List.all_eq_true.1 hall t ht
    simp only [Bool.and_eq_true] at this
    exact ⟨⟨this.1.1, blt_lt this.1.2⟩, this.2⟩
  refine returnsInHanded_of_row own started noInit hfn witness ?_
  intro W base args ds gs before hval hW _ _ hwt hL _ _
  have hW' := hW
  obtain ⟨p, q, hA, hV, rfl, hfz, hnd⟩ := hW
  rw [show (OpenSpec.ofChange s).vars = [] from hs] at hV
  obtain ⟨hlen, es, hes1, hes2⟩ := open_all fn.params.toList args.toList ds p (fun t ht => (h t ht).2) (fun j t v hj hv => hval j t v (by simpa using hj) (by simpa using hv)) hA
  obtain ⟨rfl, rfl⟩ := trodVars_none hV
  have hsl := slw_all fn.params.toList args.toList ds [] p es hA hes1 (fun x hx => of_decide_eq_true (List.all_eq_true.1 hwt x hx))
  have hcall := (hden es hes2 hsl).2 W (allOf W) args.toList (fun B off v h => h) (hgl W hL) hes1
  rw [show args.toList.toArray = args from rfl] at hcall
  refine hcall.mono ?_
  rintro e W' ⟨v, I', rfl, hk, _, _, hrel⟩
  have hv := hrel.bool_inv
  subst hv
  have hspec' : ((OpenSpec.ofChange s).at F).fn H (ds ++ []) = { results := [.lit (.bool true)], args := ds } := hspec ds hlen
  refine ⟨_, rfl, ds, [], p ++ [], [], p, [], hW', ?_, ?_, ?_, ?_, fun h => by cases h⟩
  · rw [hspec', hres]
    exact trodAll_mk1 (shut_bool hbool true)
  · rw [hspec']
    exact shut_all hl hk _ _ _ _ (fun t ht => (h t ht).1) hA
  · rw [hspec', show ((OpenSpec.ofChange s).at F).vars = [] from hs]
    exact rfl
  · refine ⟨hk.os, hk.output, fun i hi => ?_⟩
    rw [hk.block i hi]
    cases hO : W.heap[i]? with
    | none => rfl
    | some o =>
      cases o with
      | cells c t fr => exact ⟨rfl, rfl, rfl, fun _ _ => rfl⟩
      | map es clock => exact .inr ⟨rfl, rfl⟩
      | _ => rfl

end
end Go.V
