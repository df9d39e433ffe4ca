/-
  No cell of these rows narrows 'for every input' (looked for: loops, veiled, ifaces, maps, wideKeys, modest, calm, conditions, laid).
  DERIVED. THE GIVEN ROWS OF THIS SEAT. 12 by the template 'for every input the law returns true; each argument reads behind the call as it read before'; 0 by the template 'total and deterministic' (their statements: YtfdflbdnjimfaaaTotals.lean).
  GIVEN WITH THE SEED: the statements are not yours to turn. If you find one false, say at which input.
  Laid BY PROGRAM, IN A SANDBOX (cutbox-rows.mjs): the forced cells as the released guide's own fill.sh prints them over the translation 129e15a67ea00113… (all of the seat's roots in one cut). By AI agents, Wed Nov 11 2026. No macro, syntax, notation, axiom, sorry.
-/
import Derived.Test.YtfdflbdnjimfaaaChecked
import GoSem.Claim
import GoSem.ClaimJoined
import GoSem.ClaimMapViews
import Derived.JoinedTies
import Derived.KernelRfl
namespace Go.Proofs.Ytfdflbdnjimfaaa
/- THE CELL 'sum', in the pinned program and in every row, IS THE sha256 OF THE DUMP (.gsa) THAT YtfdflbdnjimfaaaProg.lean LOADS. Nothing in Lean hashes anything: it is a label: what it is worth is what the hold of that sum in a sandbox is worth. -/
noncomputable def Try.pinned : Pinned := { name := "ytfdflbdnjimfaaa", sum := "129e15a67ea0011348e947d3470e5de2417eab9150ce67db1f2eecf9c0817b8f", checked := Try.checked }
namespace Rows
def none {H : Type} : Left H := { results := [], args := [] }

/-- 'orloplaw04.VentStates': WHATEVER THE INPUT: true; the input reads as it did. -/
def ventStatesSpec : ChangeSpec := { name := "ventStates", fn := fun _ => fun
  | [d1, d2, d3] => { results := [.lit (.bool true)], args := [d1, d2, d3] }
  | _ => none }
def ventStatesRow : OpenClaim := { program := "ytfdflbdnjimfaaa", sum := "129e15a67ea0011348e947d3470e5de2417eab9150ce67db1f2eecf9c0817b8f", func := "orlop/orloplaw04.VentStates", spec := "ventStates", unfollowed := true, recurses := true, plainKeys := false, apart := false }
def VentStatesSaid : Prop := ventStatesRow.holds Try.pinned (OpenSpec.ofChange ventStatesSpec)

/-- ITS FALSE NEIGHBOUR: 'it returns false'. Refute it at one input. -/
def ventStatesWrong : ChangeSpec := { name := "ventStates", fn := fun _ => fun
  | [d1, d2, d3] => { results := [.lit (.bool false)], args := [d1, d2, d3] }
  | _ => none }
def VentStatesWrongFalsely : Prop := ventStatesRow.holds Try.pinned (OpenSpec.ofChange ventStatesWrong)

/-- 'orloplaw04.VentCuts': WHATEVER THE INPUT: true; the input reads as it did. -/
def ventCutsSpec : ChangeSpec := { name := "ventCuts", fn := fun _ => fun
  | [d1, d2, d3] => { results := [.lit (.bool true)], args := [d1, d2, d3] }
  | _ => none }
def ventCutsRow : OpenClaim := { program := "ytfdflbdnjimfaaa", sum := "129e15a67ea0011348e947d3470e5de2417eab9150ce67db1f2eecf9c0817b8f", func := "orlop/orloplaw04.VentCuts", spec := "ventCuts", unfollowed := true, recurses := true, plainKeys := false, apart := false }
def VentCutsSaid : Prop := ventCutsRow.holds Try.pinned (OpenSpec.ofChange ventCutsSpec)

/-- ITS FALSE NEIGHBOUR: 'it returns false'. Refute it at one input. -/
def ventCutsWrong : ChangeSpec := { name := "ventCuts", fn := fun _ => fun
  | [d1, d2, d3] => { results := [.lit (.bool false)], args := [d1, d2, d3] }
  | _ => none }
def VentCutsWrongFalsely : Prop := ventCutsRow.holds Try.pinned (OpenSpec.ofChange ventCutsWrong)

/-- 'orloplaw04.VentPlans': WHATEVER THE INPUT: true; the input reads as it did. -/
def ventPlansSpec : ChangeSpec := { name := "ventPlans", fn := fun _ => fun
  | [d1, d2] => { results := [.lit (.bool true)], args := [d1, d2] }
  | _ => none }
def ventPlansRow : OpenClaim := { program := "ytfdflbdnjimfaaa", sum := "129e15a67ea0011348e947d3470e5de2417eab9150ce67db1f2eecf9c0817b8f", func := "orlop/orloplaw04.VentPlans", spec := "ventPlans", unfollowed := true, recurses := true, plainKeys := false, apart := false }
def VentPlansSaid : Prop := ventPlansRow.holds Try.pinned (OpenSpec.ofChange ventPlansSpec)

/-- ITS FALSE NEIGHBOUR: 'it returns false'. Refute it at one input. -/
def ventPlansWrong : ChangeSpec := { name := "ventPlans", fn := fun _ => fun
  | [d1, d2] => { results := [.lit (.bool false)], args := [d1, d2] }
  | _ => none }
def VentPlansWrongFalsely : Prop := ventPlansRow.holds Try.pinned (OpenSpec.ofChange ventPlansWrong)

/-- 'orloplaw04.VentKnown': WHATEVER THE INPUT: true; the input reads as it did. -/
def ventKnownSpec : ChangeSpec := { name := "ventKnown", fn := fun _ => fun
  | [] => { results := [.lit (.bool true)], args := [] }
  | _ => none }
def ventKnownRow : OpenClaim := { program := "ytfdflbdnjimfaaa", sum := "129e15a67ea0011348e947d3470e5de2417eab9150ce67db1f2eecf9c0817b8f", func := "orlop/orloplaw04.VentKnown", spec := "ventKnown", unfollowed := true, recurses := true, plainKeys := false, apart := false }
def VentKnownSaid : Prop := ventKnownRow.holds Try.pinned (OpenSpec.ofChange ventKnownSpec)

/-- ITS FALSE NEIGHBOUR: 'it returns false'. Refute it at one input. -/
def ventKnownWrong : ChangeSpec := { name := "ventKnown", fn := fun _ => fun
  | [] => { results := [.lit (.bool false)], args := [] }
  | _ => none }
def VentKnownWrongFalsely : Prop := ventKnownRow.holds Try.pinned (OpenSpec.ofChange ventKnownWrong)

/-- 'orloplaw04.VentFewest': WHATEVER THE INPUT: true; the input reads as it did. -/
def ventFewestSpec : ChangeSpec := { name := "ventFewest", fn := fun _ => fun
  | [d1, d2, d3] => { results := [.lit (.bool true)], args := [d1, d2, d3] }
  | _ => none }
def ventFewestRow : OpenClaim := { program := "ytfdflbdnjimfaaa", sum := "129e15a67ea0011348e947d3470e5de2417eab9150ce67db1f2eecf9c0817b8f", func := "orlop/orloplaw04.VentFewest", spec := "ventFewest", unfollowed := true, recurses := true, plainKeys := false, apart := false }
def VentFewestSaid : Prop := ventFewestRow.holds Try.pinned (OpenSpec.ofChange ventFewestSpec)

/-- ITS FALSE NEIGHBOUR: 'it returns false'. Refute it at one input. -/
def ventFewestWrong : ChangeSpec := { name := "ventFewest", fn := fun _ => fun
  | [d1, d2, d3] => { results := [.lit (.bool false)], args := [d1, d2, d3] }
  | _ => none }
def VentFewestWrongFalsely : Prop := ventFewestRow.holds Try.pinned (OpenSpec.ofChange ventFewestWrong)

/-- 'orloplaw04.VentProved': WHATEVER THE INPUT: true; the input reads as it did. -/
def ventProvedSpec : ChangeSpec := { name := "ventProved", fn := fun _ => fun
  | [d1, d2, d3] => { results := [.lit (.bool true)], args := [d1, d2, d3] }
  | _ => none }
def ventProvedRow : OpenClaim := { program := "ytfdflbdnjimfaaa", sum := "129e15a67ea0011348e947d3470e5de2417eab9150ce67db1f2eecf9c0817b8f", func := "orlop/orloplaw04.VentProved", spec := "ventProved", unfollowed := true, recurses := true, plainKeys := false, apart := false }
def VentProvedSaid : Prop := ventProvedRow.holds Try.pinned (OpenSpec.ofChange ventProvedSpec)

/-- ITS FALSE NEIGHBOUR: 'it returns false'. Refute it at one input. -/
def ventProvedWrong : ChangeSpec := { name := "ventProved", fn := fun _ => fun
  | [d1, d2, d3] => { results := [.lit (.bool false)], args := [d1, d2, d3] }
  | _ => none }
def VentProvedWrongFalsely : Prop := ventProvedRow.holds Try.pinned (OpenSpec.ofChange ventProvedWrong)

/-- 'orloplaw04.VentFreed': WHATEVER THE INPUT: true; the input reads as it did. -/
def ventFreedSpec : ChangeSpec := { name := "ventFreed", fn := fun _ => fun
  | [d1, d2, d3] => { results := [.lit (.bool true)], args := [d1, d2, d3] }
  | _ => none }
def ventFreedRow : OpenClaim := { program := "ytfdflbdnjimfaaa", sum := "129e15a67ea0011348e947d3470e5de2417eab9150ce67db1f2eecf9c0817b8f", func := "orlop/orloplaw04.VentFreed", spec := "ventFreed", unfollowed := true, recurses := true, plainKeys := false, apart := false }
def VentFreedSaid : Prop := ventFreedRow.holds Try.pinned (OpenSpec.ofChange ventFreedSpec)

/-- ITS FALSE NEIGHBOUR: 'it returns false'. Refute it at one input. -/
def ventFreedWrong : ChangeSpec := { name := "ventFreed", fn := fun _ => fun
  | [d1, d2, d3] => { results := [.lit (.bool false)], args := [d1, d2, d3] }
  | _ => none }
def VentFreedWrongFalsely : Prop := ventFreedRow.holds Try.pinned (OpenSpec.ofChange ventFreedWrong)

/-- 'orloplaw04.VentBlowers': WHATEVER THE INPUT: true; the input reads as it did. -/
def ventBlowersSpec : ChangeSpec := { name := "ventBlowers", fn := fun _ => fun
  | [d1, d2, d3] => { results := [.lit (.bool true)], args := [d1, d2, d3] }
  | _ => none }
def ventBlowersRow : OpenClaim := { program := "ytfdflbdnjimfaaa", sum := "129e15a67ea0011348e947d3470e5de2417eab9150ce67db1f2eecf9c0817b8f", func := "orlop/orloplaw04.VentBlowers", spec := "ventBlowers", unfollowed := true, recurses := true, plainKeys := false, apart := false }
def VentBlowersSaid : Prop := ventBlowersRow.holds Try.pinned (OpenSpec.ofChange ventBlowersSpec)

/-- ITS FALSE NEIGHBOUR: 'it returns false'. Refute it at one input. -/
def ventBlowersWrong : ChangeSpec := { name := "ventBlowers", fn := fun _ => fun
  | [d1, d2, d3] => { results := [.lit (.bool false)], args := [d1, d2, d3] }
  | _ => none }
def VentBlowersWrongFalsely : Prop := ventBlowersRow.holds Try.pinned (OpenSpec.ofChange ventBlowersWrong)

/-- 'orloplaw04.VentGas': WHATEVER THE INPUT: true; the input reads as it did. -/
def ventGasSpec : ChangeSpec := { name := "ventGas", fn := fun _ => fun
  | [d1, d2] => { results := [.lit (.bool true)], args := [d1, d2] }
  | _ => none }
def ventGasRow : OpenClaim := { program := "ytfdflbdnjimfaaa", sum := "129e15a67ea0011348e947d3470e5de2417eab9150ce67db1f2eecf9c0817b8f", func := "orlop/orloplaw04.VentGas", spec := "ventGas", unfollowed := true, recurses := true, plainKeys := false, apart := false }
def VentGasSaid : Prop := ventGasRow.holds Try.pinned (OpenSpec.ofChange ventGasSpec)

/-- ITS FALSE NEIGHBOUR: 'it returns false'. Refute it at one input. -/
def ventGasWrong : ChangeSpec := { name := "ventGas", fn := fun _ => fun
  | [d1, d2] => { results := [.lit (.bool false)], args := [d1, d2] }
  | _ => none }
def VentGasWrongFalsely : Prop := ventGasRow.holds Try.pinned (OpenSpec.ofChange ventGasWrong)

/-- 'orloplaw04.VentJoined': WHATEVER THE INPUT: true; the input reads as it did. -/
def ventJoinedSpec : ChangeSpec := { name := "ventJoined", fn := fun _ => fun
  | [d1, d2, d3] => { results := [.lit (.bool true)], args := [d1, d2, d3] }
  | _ => none }
def ventJoinedRow : OpenClaim := { program := "ytfdflbdnjimfaaa", sum := "129e15a67ea0011348e947d3470e5de2417eab9150ce67db1f2eecf9c0817b8f", func := "orlop/orloplaw04.VentJoined", spec := "ventJoined", unfollowed := true, recurses := true, plainKeys := false, apart := false }
def VentJoinedSaid : Prop := ventJoinedRow.holds Try.pinned (OpenSpec.ofChange ventJoinedSpec)

/-- ITS FALSE NEIGHBOUR: 'it returns false'. Refute it at one input. -/
def ventJoinedWrong : ChangeSpec := { name := "ventJoined", fn := fun _ => fun
  | [d1, d2, d3] => { results := [.lit (.bool false)], args := [d1, d2, d3] }
  | _ => none }
def VentJoinedWrongFalsely : Prop := ventJoinedRow.holds Try.pinned (OpenSpec.ofChange ventJoinedWrong)

/-- 'orloplaw04.VentSpread': WHATEVER THE INPUT: true; the input reads as it did. -/
def ventSpreadSpec : ChangeSpec := { name := "ventSpread", fn := fun _ => fun
  | [d1, d2, d3] => { results := [.lit (.bool true)], args := [d1, d2, d3] }
  | _ => none }
def ventSpreadRow : OpenClaim := { program := "ytfdflbdnjimfaaa", sum := "129e15a67ea0011348e947d3470e5de2417eab9150ce67db1f2eecf9c0817b8f", func := "orlop/orloplaw04.VentSpread", spec := "ventSpread", unfollowed := true, recurses := true, plainKeys := false, apart := false }
def VentSpreadSaid : Prop := ventSpreadRow.holds Try.pinned (OpenSpec.ofChange ventSpreadSpec)

/-- ITS FALSE NEIGHBOUR: 'it returns false'. Refute it at one input. -/
def ventSpreadWrong : ChangeSpec := { name := "ventSpread", fn := fun _ => fun
  | [d1, d2, d3] => { results := [.lit (.bool false)], args := [d1, d2, d3] }
  | _ => none }
def VentSpreadWrongFalsely : Prop := ventSpreadRow.holds Try.pinned (OpenSpec.ofChange ventSpreadWrong)

/-- 'orloplaw04.VentTurned': WHATEVER THE INPUT: true; the input reads as it did. -/
def ventTurnedSpec : ChangeSpec := { name := "ventTurned", fn := fun _ => fun
  | [d1, d2, d3] => { results := [.lit (.bool true)], args := [d1, d2, d3] }
  | _ => none }
def ventTurnedRow : OpenClaim := { program := "ytfdflbdnjimfaaa", sum := "129e15a67ea0011348e947d3470e5de2417eab9150ce67db1f2eecf9c0817b8f", func := "orlop/orloplaw04.VentTurned", spec := "ventTurned", unfollowed := true, recurses := true, plainKeys := false, apart := false }
def VentTurnedSaid : Prop := ventTurnedRow.holds Try.pinned (OpenSpec.ofChange ventTurnedSpec)

/-- ITS FALSE NEIGHBOUR: 'it returns false'. Refute it at one input. -/
def ventTurnedWrong : ChangeSpec := { name := "ventTurned", fn := fun _ => fun
  | [d1, d2, d3] => { results := [.lit (.bool false)], args := [d1, d2, d3] }
  | _ => none }
def VentTurnedWrongFalsely : Prop := ventTurnedRow.holds Try.pinned (OpenSpec.ofChange ventTurnedWrong)

/- THE SECOND FORM. 'bulk': how many values and letters a reading holds, each counted each time it is reached (what is shared counts as often as it is met; a slice's spare places count too). A statement '..UptoSaid' is the law's where the arguments, and the package variables that the reading takes, are together of bulk at most 1048576: NARROWER than '..Said'. Prove '..Said' where nothing that the law and all that it calls make is longer than what came in: it says more and counts as full. Else prove '..UptoSaid'. A law counts once. -/
mutual
def uptoBulk {H : Type} : DataW H → Nat
  | .lit (.string bytes) => bytes.length + 1
  | .lit _ => 1
  | .nil => 1
  | .ptr d => uptoBulk d + 1
  | .slice elems spare => uptoBulkAll elems + uptoBulkAll spare + 1
  | .agg parts => uptoBulkAll parts + 1
  | .iface _ d => uptoBulk d + 1
  | .map entries => uptoBulkEntries entries + 1
  | .held _ => 1
def uptoBulkAll {H : Type} : List (DataW H) → Nat
  | [] => 0
  | d :: r => uptoBulk d + uptoBulkAll r
def uptoBulkEntries {H : Type} : List (Lit × DataW H) → Nat
  | [] => 0
  | x :: r => uptoBulkEntry x + uptoBulkEntries r
def uptoBulkEntry {H : Type} : Lit × DataW H → Nat
  | (.string bytes, d) => bytes.length + uptoBulk d + 1
  | (_, d) => uptoBulk d + 1
 end
def uptoSmall : (H : Type) → List (DataW H) → Bool := fun _ ds => decide (uptoBulkAll ds ≤ 1048576)
def OpenSpec.upto (s : _root_.Go.ChangeSpec) : _root_.Go.OpenSpec := { _root_.Go.OpenSpec.ofChange s with cond := some uptoSmall }

/-- 'orloplaw04.VentStates', WHERE WHAT IT READS IS OF BULK AT MOST 1048576: true; the input reads as it did. -/
def ventStatesUptoRow : OpenClaim := { program := "ytfdflbdnjimfaaa", sum := "129e15a67ea0011348e947d3470e5de2417eab9150ce67db1f2eecf9c0817b8f", func := "orlop/orloplaw04.VentStates", spec := "ventStates", unfollowed := true, recurses := true, plainKeys := false, apart := false, narrowed := true }
def VentStatesUptoSaid : Prop := ventStatesUptoRow.holds Try.pinned (OpenSpec.upto ventStatesSpec)

/-- 'orloplaw04.VentCuts', WHERE WHAT IT READS IS OF BULK AT MOST 1048576: true; the input reads as it did. -/
def ventCutsUptoRow : OpenClaim := { program := "ytfdflbdnjimfaaa", sum := "129e15a67ea0011348e947d3470e5de2417eab9150ce67db1f2eecf9c0817b8f", func := "orlop/orloplaw04.VentCuts", spec := "ventCuts", unfollowed := true, recurses := true, plainKeys := false, apart := false, narrowed := true }
def VentCutsUptoSaid : Prop := ventCutsUptoRow.holds Try.pinned (OpenSpec.upto ventCutsSpec)

/-- 'orloplaw04.VentPlans', WHERE WHAT IT READS IS OF BULK AT MOST 1048576: true; the input reads as it did. -/
def ventPlansUptoRow : OpenClaim := { program := "ytfdflbdnjimfaaa", sum := "129e15a67ea0011348e947d3470e5de2417eab9150ce67db1f2eecf9c0817b8f", func := "orlop/orloplaw04.VentPlans", spec := "ventPlans", unfollowed := true, recurses := true, plainKeys := false, apart := false, narrowed := true }
def VentPlansUptoSaid : Prop := ventPlansUptoRow.holds Try.pinned (OpenSpec.upto ventPlansSpec)

/-- 'orloplaw04.VentKnown', WHERE WHAT IT READS IS OF BULK AT MOST 1048576: true; the input reads as it did. -/
def ventKnownUptoRow : OpenClaim := { program := "ytfdflbdnjimfaaa", sum := "129e15a67ea0011348e947d3470e5de2417eab9150ce67db1f2eecf9c0817b8f", func := "orlop/orloplaw04.VentKnown", spec := "ventKnown", unfollowed := true, recurses := true, plainKeys := false, apart := false, narrowed := true }
def VentKnownUptoSaid : Prop := ventKnownUptoRow.holds Try.pinned (OpenSpec.upto ventKnownSpec)

/-- 'orloplaw04.VentFewest', WHERE WHAT IT READS IS OF BULK AT MOST 1048576: true; the input reads as it did. -/
def ventFewestUptoRow : OpenClaim := { program := "ytfdflbdnjimfaaa", sum := "129e15a67ea0011348e947d3470e5de2417eab9150ce67db1f2eecf9c0817b8f", func := "orlop/orloplaw04.VentFewest", spec := "ventFewest", unfollowed := true, recurses := true, plainKeys := false, apart := false, narrowed := true }
def VentFewestUptoSaid : Prop := ventFewestUptoRow.holds Try.pinned (OpenSpec.upto ventFewestSpec)

/-- 'orloplaw04.VentProved', WHERE WHAT IT READS IS OF BULK AT MOST 1048576: true; the input reads as it did. -/
def ventProvedUptoRow : OpenClaim := { program := "ytfdflbdnjimfaaa", sum := "129e15a67ea0011348e947d3470e5de2417eab9150ce67db1f2eecf9c0817b8f", func := "orlop/orloplaw04.VentProved", spec := "ventProved", unfollowed := true, recurses := true, plainKeys := false, apart := false, narrowed := true }
def VentProvedUptoSaid : Prop := ventProvedUptoRow.holds Try.pinned (OpenSpec.upto ventProvedSpec)

/-- 'orloplaw04.VentFreed', WHERE WHAT IT READS IS OF BULK AT MOST 1048576: true; the input reads as it did. -/
def ventFreedUptoRow : OpenClaim := { program := "ytfdflbdnjimfaaa", sum := "129e15a67ea0011348e947d3470e5de2417eab9150ce67db1f2eecf9c0817b8f", func := "orlop/orloplaw04.VentFreed", spec := "ventFreed", unfollowed := true, recurses := true, plainKeys := false, apart := false, narrowed := true }
def VentFreedUptoSaid : Prop := ventFreedUptoRow.holds Try.pinned (OpenSpec.upto ventFreedSpec)

/-- 'orloplaw04.VentBlowers', WHERE WHAT IT READS IS OF BULK AT MOST 1048576: true; the input reads as it did. -/
def ventBlowersUptoRow : OpenClaim := { program := "ytfdflbdnjimfaaa", sum := "129e15a67ea0011348e947d3470e5de2417eab9150ce67db1f2eecf9c0817b8f", func := "orlop/orloplaw04.VentBlowers", spec := "ventBlowers", unfollowed := true, recurses := true, plainKeys := false, apart := false, narrowed := true }
def VentBlowersUptoSaid : Prop := ventBlowersUptoRow.holds Try.pinned (OpenSpec.upto ventBlowersSpec)

/-- 'orloplaw04.VentGas', WHERE WHAT IT READS IS OF BULK AT MOST 1048576: true; the input reads as it did. -/
def ventGasUptoRow : OpenClaim := { program := "ytfdflbdnjimfaaa", sum := "129e15a67ea0011348e947d3470e5de2417eab9150ce67db1f2eecf9c0817b8f", func := "orlop/orloplaw04.VentGas", spec := "ventGas", unfollowed := true, recurses := true, plainKeys := false, apart := false, narrowed := true }
def VentGasUptoSaid : Prop := ventGasUptoRow.holds Try.pinned (OpenSpec.upto ventGasSpec)

/-- 'orloplaw04.VentJoined', WHERE WHAT IT READS IS OF BULK AT MOST 1048576: true; the input reads as it did. -/
def ventJoinedUptoRow : OpenClaim := { program := "ytfdflbdnjimfaaa", sum := "129e15a67ea0011348e947d3470e5de2417eab9150ce67db1f2eecf9c0817b8f", func := "orlop/orloplaw04.VentJoined", spec := "ventJoined", unfollowed := true, recurses := true, plainKeys := false, apart := false, narrowed := true }
def VentJoinedUptoSaid : Prop := ventJoinedUptoRow.holds Try.pinned (OpenSpec.upto ventJoinedSpec)

/-- 'orloplaw04.VentSpread', WHERE WHAT IT READS IS OF BULK AT MOST 1048576: true; the input reads as it did. -/
def ventSpreadUptoRow : OpenClaim := { program := "ytfdflbdnjimfaaa", sum := "129e15a67ea0011348e947d3470e5de2417eab9150ce67db1f2eecf9c0817b8f", func := "orlop/orloplaw04.VentSpread", spec := "ventSpread", unfollowed := true, recurses := true, plainKeys := false, apart := false, narrowed := true }
def VentSpreadUptoSaid : Prop := ventSpreadUptoRow.holds Try.pinned (OpenSpec.upto ventSpreadSpec)

/-- 'orloplaw04.VentTurned', WHERE WHAT IT READS IS OF BULK AT MOST 1048576: true; the input reads as it did. -/
def ventTurnedUptoRow : OpenClaim := { program := "ytfdflbdnjimfaaa", sum := "129e15a67ea0011348e947d3470e5de2417eab9150ce67db1f2eecf9c0817b8f", func := "orlop/orloplaw04.VentTurned", spec := "ventTurned", unfollowed := true, recurses := true, plainKeys := false, apart := false, narrowed := true }
def VentTurnedUptoSaid : Prop := ventTurnedUptoRow.holds Try.pinned (OpenSpec.upto ventTurnedSpec)

end Rows
end Go.Proofs.Ytfdflbdnjimfaaa
