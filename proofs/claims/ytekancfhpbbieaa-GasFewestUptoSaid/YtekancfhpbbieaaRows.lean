/-
  No cell of these rows narrows 'for every input' (looked for: loops, veiled, ifaces, maps, wideKeys, modest, calm, conditions, laid).
  DERIVED. THE GIVEN ROWS OF THIS SEAT. 12 by the template 'for every input the law returns true; each argument reads behind the call as it read before'; 0 by the template 'total and deterministic' (their statements: YtekancfhpbbieaaTotals.lean).
  GIVEN WITH THE SEED: the statements are not yours to turn. If you find one false, say at which input.
  Laid BY PROGRAM, IN A SANDBOX (cutbox-rows.mjs): the forced cells as the released guide's own fill.sh prints them over the translation 1594e4606acac4ff… (all of the seat's roots in one cut). By AI agents, Wed Nov 11 2026. No macro, syntax, notation, axiom, sorry.
-/
import Derived.Test.YtekancfhpbbieaaChecked
import GoSem.Claim
import GoSem.ClaimJoined
import GoSem.ClaimMapViews
import Derived.JoinedTies
import Derived.KernelRfl
namespace Go.Proofs.Ytekancfhpbbieaa
/- THE CELL 'sum', in the pinned program and in every row, IS THE sha256 OF THE DUMP (.gsa) THAT YtekancfhpbbieaaProg.lean LOADS. Nothing in Lean hashes anything: it is a label: what it is worth is what the hold of that sum in a sandbox is worth. -/
noncomputable def Try.pinned : Pinned := { name := "ytekancfhpbbieaa", sum := "1594e4606acac4ff61889f6883b4ecf4aed8df7a79cb7bc552cff366ac5e7c9c", checked := Try.checked }
namespace Rows
def none {H : Type} : Left H := { results := [], args := [] }

/-- 'orloplaw03.GasLevels': WHATEVER THE INPUT: true; the input reads as it did. -/
def gasLevelsSpec : ChangeSpec := { name := "gasLevels", fn := fun _ => fun
  | [d1, d2, d3] => { results := [.lit (.bool true)], args := [d1, d2, d3] }
  | _ => none }
def gasLevelsRow : OpenClaim := { program := "ytekancfhpbbieaa", sum := "1594e4606acac4ff61889f6883b4ecf4aed8df7a79cb7bc552cff366ac5e7c9c", func := "orlop/orloplaw03.GasLevels", spec := "gasLevels", unfollowed := true, recurses := true, apart := false }
def GasLevelsSaid : Prop := gasLevelsRow.holds Try.pinned (OpenSpec.ofChange gasLevelsSpec)

/-- ITS FALSE NEIGHBOUR: 'it returns false'. Refute it at one input. -/
def gasLevelsWrong : ChangeSpec := { name := "gasLevels", fn := fun _ => fun
  | [d1, d2, d3] => { results := [.lit (.bool false)], args := [d1, d2, d3] }
  | _ => none }
def GasLevelsWrongFalsely : Prop := gasLevelsRow.holds Try.pinned (OpenSpec.ofChange gasLevelsWrong)

/-- 'orloplaw03.GasRefusals': WHATEVER THE INPUT: true; the input reads as it did. -/
def gasRefusalsSpec : ChangeSpec := { name := "gasRefusals", fn := fun _ => fun
  | [d1, d2, d3] => { results := [.lit (.bool true)], args := [d1, d2, d3] }
  | _ => none }
def gasRefusalsRow : OpenClaim := { program := "ytekancfhpbbieaa", sum := "1594e4606acac4ff61889f6883b4ecf4aed8df7a79cb7bc552cff366ac5e7c9c", func := "orlop/orloplaw03.GasRefusals", spec := "gasRefusals", unfollowed := true, recurses := true, apart := false }
def GasRefusalsSaid : Prop := gasRefusalsRow.holds Try.pinned (OpenSpec.ofChange gasRefusalsSpec)

/-- ITS FALSE NEIGHBOUR: 'it returns false'. Refute it at one input. -/
def gasRefusalsWrong : ChangeSpec := { name := "gasRefusals", fn := fun _ => fun
  | [d1, d2, d3] => { results := [.lit (.bool false)], args := [d1, d2, d3] }
  | _ => none }
def GasRefusalsWrongFalsely : Prop := gasRefusalsRow.holds Try.pinned (OpenSpec.ofChange gasRefusalsWrong)

/-- 'orloplaw03.GasHolds': WHATEVER THE INPUT: true; the input reads as it did. -/
def gasHoldsSpec : ChangeSpec := { name := "gasHolds", fn := fun _ => fun
  | [d1, d2] => { results := [.lit (.bool true)], args := [d1, d2] }
  | _ => none }
def gasHoldsRow : OpenClaim := { program := "ytekancfhpbbieaa", sum := "1594e4606acac4ff61889f6883b4ecf4aed8df7a79cb7bc552cff366ac5e7c9c", func := "orlop/orloplaw03.GasHolds", spec := "gasHolds", unfollowed := true, recurses := true, apart := false }
def GasHoldsSaid : Prop := gasHoldsRow.holds Try.pinned (OpenSpec.ofChange gasHoldsSpec)

/-- ITS FALSE NEIGHBOUR: 'it returns false'. Refute it at one input. -/
def gasHoldsWrong : ChangeSpec := { name := "gasHolds", fn := fun _ => fun
  | [d1, d2] => { results := [.lit (.bool false)], args := [d1, d2] }
  | _ => none }
def GasHoldsWrongFalsely : Prop := gasHoldsRow.holds Try.pinned (OpenSpec.ofChange gasHoldsWrong)

/-- 'orloplaw03.GasKnown': WHATEVER THE INPUT: true; the input reads as it did. -/
def gasKnownSpec : ChangeSpec := { name := "gasKnown", fn := fun _ => fun
  | [] => { results := [.lit (.bool true)], args := [] }
  | _ => none }
def gasKnownRow : OpenClaim := { program := "ytekancfhpbbieaa", sum := "1594e4606acac4ff61889f6883b4ecf4aed8df7a79cb7bc552cff366ac5e7c9c", func := "orlop/orloplaw03.GasKnown", spec := "gasKnown", unfollowed := true, recurses := true, apart := false }
def GasKnownSaid : Prop := gasKnownRow.holds Try.pinned (OpenSpec.ofChange gasKnownSpec)

/-- ITS FALSE NEIGHBOUR: 'it returns false'. Refute it at one input. -/
def gasKnownWrong : ChangeSpec := { name := "gasKnown", fn := fun _ => fun
  | [] => { results := [.lit (.bool false)], args := [] }
  | _ => none }
def GasKnownWrongFalsely : Prop := gasKnownRow.holds Try.pinned (OpenSpec.ofChange gasKnownWrong)

/-- 'orloplaw03.GasTrue': WHATEVER THE INPUT: true; the input reads as it did. -/
def gasTrueSpec : ChangeSpec := { name := "gasTrue", fn := fun _ => fun
  | [d1, d2] => { results := [.lit (.bool true)], args := [d1, d2] }
  | _ => none }
def gasTrueRow : OpenClaim := { program := "ytekancfhpbbieaa", sum := "1594e4606acac4ff61889f6883b4ecf4aed8df7a79cb7bc552cff366ac5e7c9c", func := "orlop/orloplaw03.GasTrue", spec := "gasTrue", unfollowed := true, recurses := true, apart := false }
def GasTrueSaid : Prop := gasTrueRow.holds Try.pinned (OpenSpec.ofChange gasTrueSpec)

/-- ITS FALSE NEIGHBOUR: 'it returns false'. Refute it at one input. -/
def gasTrueWrong : ChangeSpec := { name := "gasTrue", fn := fun _ => fun
  | [d1, d2] => { results := [.lit (.bool false)], args := [d1, d2] }
  | _ => none }
def GasTrueWrongFalsely : Prop := gasTrueRow.holds Try.pinned (OpenSpec.ofChange gasTrueWrong)

/-- 'orloplaw03.GasRefused': WHATEVER THE INPUT: true; the input reads as it did. -/
def gasRefusedSpec : ChangeSpec := { name := "gasRefused", fn := fun _ => fun
  | [d1, d2, d3] => { results := [.lit (.bool true)], args := [d1, d2, d3] }
  | _ => none }
def gasRefusedRow : OpenClaim := { program := "ytekancfhpbbieaa", sum := "1594e4606acac4ff61889f6883b4ecf4aed8df7a79cb7bc552cff366ac5e7c9c", func := "orlop/orloplaw03.GasRefused", spec := "gasRefused", unfollowed := true, recurses := true, apart := false }
def GasRefusedSaid : Prop := gasRefusedRow.holds Try.pinned (OpenSpec.ofChange gasRefusedSpec)

/-- ITS FALSE NEIGHBOUR: 'it returns false'. Refute it at one input. -/
def gasRefusedWrong : ChangeSpec := { name := "gasRefused", fn := fun _ => fun
  | [d1, d2, d3] => { results := [.lit (.bool false)], args := [d1, d2, d3] }
  | _ => none }
def GasRefusedWrongFalsely : Prop := gasRefusedRow.holds Try.pinned (OpenSpec.ofChange gasRefusedWrong)

/-- 'orloplaw03.GasReached': WHATEVER THE INPUT: true; the input reads as it did. -/
def gasReachedSpec : ChangeSpec := { name := "gasReached", fn := fun _ => fun
  | [d1, d2, d3] => { results := [.lit (.bool true)], args := [d1, d2, d3] }
  | _ => none }
def gasReachedRow : OpenClaim := { program := "ytekancfhpbbieaa", sum := "1594e4606acac4ff61889f6883b4ecf4aed8df7a79cb7bc552cff366ac5e7c9c", func := "orlop/orloplaw03.GasReached", spec := "gasReached", unfollowed := true, recurses := true, apart := false }
def GasReachedSaid : Prop := gasReachedRow.holds Try.pinned (OpenSpec.ofChange gasReachedSpec)

/-- ITS FALSE NEIGHBOUR: 'it returns false'. Refute it at one input. -/
def gasReachedWrong : ChangeSpec := { name := "gasReached", fn := fun _ => fun
  | [d1, d2, d3] => { results := [.lit (.bool false)], args := [d1, d2, d3] }
  | _ => none }
def GasReachedWrongFalsely : Prop := gasReachedRow.holds Try.pinned (OpenSpec.ofChange gasReachedWrong)

/-- 'orloplaw03.GasMore': WHATEVER THE INPUT: true; the input reads as it did. -/
def gasMoreSpec : ChangeSpec := { name := "gasMore", fn := fun _ => fun
  | [d1, d2, d3] => { results := [.lit (.bool true)], args := [d1, d2, d3] }
  | _ => none }
def gasMoreRow : OpenClaim := { program := "ytekancfhpbbieaa", sum := "1594e4606acac4ff61889f6883b4ecf4aed8df7a79cb7bc552cff366ac5e7c9c", func := "orlop/orloplaw03.GasMore", spec := "gasMore", unfollowed := true, recurses := true, apart := false }
def GasMoreSaid : Prop := gasMoreRow.holds Try.pinned (OpenSpec.ofChange gasMoreSpec)

/-- ITS FALSE NEIGHBOUR: 'it returns false'. Refute it at one input. -/
def gasMoreWrong : ChangeSpec := { name := "gasMore", fn := fun _ => fun
  | [d1, d2, d3] => { results := [.lit (.bool false)], args := [d1, d2, d3] }
  | _ => none }
def GasMoreWrongFalsely : Prop := gasMoreRow.holds Try.pinned (OpenSpec.ofChange gasMoreWrong)

/-- 'orloplaw03.GasOrder': WHATEVER THE INPUT: true; the input reads as it did. -/
def gasOrderSpec : ChangeSpec := { name := "gasOrder", fn := fun _ => fun
  | [d1, d2, d3] => { results := [.lit (.bool true)], args := [d1, d2, d3] }
  | _ => none }
def gasOrderRow : OpenClaim := { program := "ytekancfhpbbieaa", sum := "1594e4606acac4ff61889f6883b4ecf4aed8df7a79cb7bc552cff366ac5e7c9c", func := "orlop/orloplaw03.GasOrder", spec := "gasOrder", unfollowed := true, recurses := true, apart := false }
def GasOrderSaid : Prop := gasOrderRow.holds Try.pinned (OpenSpec.ofChange gasOrderSpec)

/-- ITS FALSE NEIGHBOUR: 'it returns false'. Refute it at one input. -/
def gasOrderWrong : ChangeSpec := { name := "gasOrder", fn := fun _ => fun
  | [d1, d2, d3] => { results := [.lit (.bool false)], args := [d1, d2, d3] }
  | _ => none }
def GasOrderWrongFalsely : Prop := gasOrderRow.holds Try.pinned (OpenSpec.ofChange gasOrderWrong)

/-- 'orloplaw03.GasFewest': WHATEVER THE INPUT: true; the input reads as it did. -/
def gasFewestSpec : ChangeSpec := { name := "gasFewest", fn := fun _ => fun
  | [d1, d2] => { results := [.lit (.bool true)], args := [d1, d2] }
  | _ => none }
def gasFewestRow : OpenClaim := { program := "ytekancfhpbbieaa", sum := "1594e4606acac4ff61889f6883b4ecf4aed8df7a79cb7bc552cff366ac5e7c9c", func := "orlop/orloplaw03.GasFewest", spec := "gasFewest", unfollowed := true, recurses := true, apart := false }
def GasFewestSaid : Prop := gasFewestRow.holds Try.pinned (OpenSpec.ofChange gasFewestSpec)

/-- ITS FALSE NEIGHBOUR: 'it returns false'. Refute it at one input. -/
def gasFewestWrong : ChangeSpec := { name := "gasFewest", fn := fun _ => fun
  | [d1, d2] => { results := [.lit (.bool false)], args := [d1, d2] }
  | _ => none }
def GasFewestWrongFalsely : Prop := gasFewestRow.holds Try.pinned (OpenSpec.ofChange gasFewestWrong)

/-- 'orloplaw03.GasWider': WHATEVER THE INPUT: true; the input reads as it did. -/
def gasWiderSpec : ChangeSpec := { name := "gasWider", fn := fun _ => fun
  | [d1, d2, d3] => { results := [.lit (.bool true)], args := [d1, d2, d3] }
  | _ => none }
def gasWiderRow : OpenClaim := { program := "ytekancfhpbbieaa", sum := "1594e4606acac4ff61889f6883b4ecf4aed8df7a79cb7bc552cff366ac5e7c9c", func := "orlop/orloplaw03.GasWider", spec := "gasWider", unfollowed := true, recurses := true, apart := false }
def GasWiderSaid : Prop := gasWiderRow.holds Try.pinned (OpenSpec.ofChange gasWiderSpec)

/-- ITS FALSE NEIGHBOUR: 'it returns false'. Refute it at one input. -/
def gasWiderWrong : ChangeSpec := { name := "gasWider", fn := fun _ => fun
  | [d1, d2, d3] => { results := [.lit (.bool false)], args := [d1, d2, d3] }
  | _ => none }
def GasWiderWrongFalsely : Prop := gasWiderRow.holds Try.pinned (OpenSpec.ofChange gasWiderWrong)

/-- 'orloplaw03.GasShorter': WHATEVER THE INPUT: true; the input reads as it did. -/
def gasShorterSpec : ChangeSpec := { name := "gasShorter", fn := fun _ => fun
  | [d1, d2] => { results := [.lit (.bool true)], args := [d1, d2] }
  | _ => none }
def gasShorterRow : OpenClaim := { program := "ytekancfhpbbieaa", sum := "1594e4606acac4ff61889f6883b4ecf4aed8df7a79cb7bc552cff366ac5e7c9c", func := "orlop/orloplaw03.GasShorter", spec := "gasShorter", unfollowed := true, recurses := true, apart := false }
def GasShorterSaid : Prop := gasShorterRow.holds Try.pinned (OpenSpec.ofChange gasShorterSpec)

/-- ITS FALSE NEIGHBOUR: 'it returns false'. Refute it at one input. -/
def gasShorterWrong : ChangeSpec := { name := "gasShorter", fn := fun _ => fun
  | [d1, d2] => { results := [.lit (.bool false)], args := [d1, d2] }
  | _ => none }
def GasShorterWrongFalsely : Prop := gasShorterRow.holds Try.pinned (OpenSpec.ofChange gasShorterWrong)

/- THE SECOND FORM. 'bulk': how many values and letters a reading holds, each counted each time it is reached (what is shared counts as often as it is met; a slice's spare places count too). A statement '..UptoSaid' is the law's where the arguments, and the package variables that the reading takes, are together of bulk at most 1048576: NARROWER than '..Said'. Prove '..Said' where nothing that the law and all that it calls make is longer than what came in: it says more and counts as full. Else prove '..UptoSaid'. A law counts once. -/
mutual
def uptoBulk {H : Type} : DataW H → Nat
  | .lit (.string bytes) => bytes.length + 1
  | .lit _ => 1
  | .nil => 1
  | .ptr d => uptoBulk d + 1
  | .slice elems spare => uptoBulkAll elems + uptoBulkAll spare + 1
  | .agg parts => uptoBulkAll parts + 1
  | .iface _ d => uptoBulk d + 1
  | .map entries => uptoBulkEntries entries + 1
  | .held _ => 1
def uptoBulkAll {H : Type} : List (DataW H) → Nat
  | [] => 0
  | d :: r => uptoBulk d + uptoBulkAll r
def uptoBulkEntries {H : Type} : List (Lit × DataW H) → Nat
  | [] => 0
  | x :: r => uptoBulkEntry x + uptoBulkEntries r
def uptoBulkEntry {H : Type} : Lit × DataW H → Nat
  | (.string bytes, d) => bytes.length + uptoBulk d + 1
  | (_, d) => uptoBulk d + 1
 end
def uptoSmall : (H : Type) → List (DataW H) → Bool := fun _ ds => decide (uptoBulkAll ds ≤ 1048576)
def OpenSpec.upto (s : _root_.Go.ChangeSpec) : _root_.Go.OpenSpec := { _root_.Go.OpenSpec.ofChange s with cond := some uptoSmall }

/-- 'orloplaw03.GasLevels', WHERE WHAT IT READS IS OF BULK AT MOST 1048576: true; the input reads as it did. -/
def gasLevelsUptoRow : OpenClaim := { program := "ytekancfhpbbieaa", sum := "1594e4606acac4ff61889f6883b4ecf4aed8df7a79cb7bc552cff366ac5e7c9c", func := "orlop/orloplaw03.GasLevels", spec := "gasLevels", unfollowed := true, recurses := true, apart := false, narrowed := true }
def GasLevelsUptoSaid : Prop := gasLevelsUptoRow.holds Try.pinned (OpenSpec.upto gasLevelsSpec)

/-- 'orloplaw03.GasRefusals', WHERE WHAT IT READS IS OF BULK AT MOST 1048576: true; the input reads as it did. -/
def gasRefusalsUptoRow : OpenClaim := { program := "ytekancfhpbbieaa", sum := "1594e4606acac4ff61889f6883b4ecf4aed8df7a79cb7bc552cff366ac5e7c9c", func := "orlop/orloplaw03.GasRefusals", spec := "gasRefusals", unfollowed := true, recurses := true, apart := false, narrowed := true }
def GasRefusalsUptoSaid : Prop := gasRefusalsUptoRow.holds Try.pinned (OpenSpec.upto gasRefusalsSpec)

/-- 'orloplaw03.GasHolds', WHERE WHAT IT READS IS OF BULK AT MOST 1048576: true; the input reads as it did. -/
def gasHoldsUptoRow : OpenClaim := { program := "ytekancfhpbbieaa", sum := "1594e4606acac4ff61889f6883b4ecf4aed8df7a79cb7bc552cff366ac5e7c9c", func := "orlop/orloplaw03.GasHolds", spec := "gasHolds", unfollowed := true, recurses := true, apart := false, narrowed := true }
def GasHoldsUptoSaid : Prop := gasHoldsUptoRow.holds Try.pinned (OpenSpec.upto gasHoldsSpec)

/-- 'orloplaw03.GasKnown', WHERE WHAT IT READS IS OF BULK AT MOST 1048576: true; the input reads as it did. -/
def gasKnownUptoRow : OpenClaim := { program := "ytekancfhpbbieaa", sum := "1594e4606acac4ff61889f6883b4ecf4aed8df7a79cb7bc552cff366ac5e7c9c", func := "orlop/orloplaw03.GasKnown", spec := "gasKnown", unfollowed := true, recurses := true, apart := false, narrowed := true }
def GasKnownUptoSaid : Prop := gasKnownUptoRow.holds Try.pinned (OpenSpec.upto gasKnownSpec)

/-- 'orloplaw03.GasTrue', WHERE WHAT IT READS IS OF BULK AT MOST 1048576: true; the input reads as it did. -/
def gasTrueUptoRow : OpenClaim := { program := "ytekancfhpbbieaa", sum := "1594e4606acac4ff61889f6883b4ecf4aed8df7a79cb7bc552cff366ac5e7c9c", func := "orlop/orloplaw03.GasTrue", spec := "gasTrue", unfollowed := true, recurses := true, apart := false, narrowed := true }
def GasTrueUptoSaid : Prop := gasTrueUptoRow.holds Try.pinned (OpenSpec.upto gasTrueSpec)

/-- 'orloplaw03.GasRefused', WHERE WHAT IT READS IS OF BULK AT MOST 1048576: true; the input reads as it did. -/
def gasRefusedUptoRow : OpenClaim := { program := "ytekancfhpbbieaa", sum := "1594e4606acac4ff61889f6883b4ecf4aed8df7a79cb7bc552cff366ac5e7c9c", func := "orlop/orloplaw03.GasRefused", spec := "gasRefused", unfollowed := true, recurses := true, apart := false, narrowed := true }
def GasRefusedUptoSaid : Prop := gasRefusedUptoRow.holds Try.pinned (OpenSpec.upto gasRefusedSpec)

/-- 'orloplaw03.GasReached', WHERE WHAT IT READS IS OF BULK AT MOST 1048576: true; the input reads as it did. -/
def gasReachedUptoRow : OpenClaim := { program := "ytekancfhpbbieaa", sum := "1594e4606acac4ff61889f6883b4ecf4aed8df7a79cb7bc552cff366ac5e7c9c", func := "orlop/orloplaw03.GasReached", spec := "gasReached", unfollowed := true, recurses := true, apart := false, narrowed := true }
def GasReachedUptoSaid : Prop := gasReachedUptoRow.holds Try.pinned (OpenSpec.upto gasReachedSpec)

/-- 'orloplaw03.GasMore', WHERE WHAT IT READS IS OF BULK AT MOST 1048576: true; the input reads as it did. -/
def gasMoreUptoRow : OpenClaim := { program := "ytekancfhpbbieaa", sum := "1594e4606acac4ff61889f6883b4ecf4aed8df7a79cb7bc552cff366ac5e7c9c", func := "orlop/orloplaw03.GasMore", spec := "gasMore", unfollowed := true, recurses := true, apart := false, narrowed := true }
def GasMoreUptoSaid : Prop := gasMoreUptoRow.holds Try.pinned (OpenSpec.upto gasMoreSpec)

/-- 'orloplaw03.GasOrder', WHERE WHAT IT READS IS OF BULK AT MOST 1048576: true; the input reads as it did. -/
def gasOrderUptoRow : OpenClaim := { program := "ytekancfhpbbieaa", sum := "1594e4606acac4ff61889f6883b4ecf4aed8df7a79cb7bc552cff366ac5e7c9c", func := "orlop/orloplaw03.GasOrder", spec := "gasOrder", unfollowed := true, recurses := true, apart := false, narrowed := true }
def GasOrderUptoSaid : Prop := gasOrderUptoRow.holds Try.pinned (OpenSpec.upto gasOrderSpec)

/-- 'orloplaw03.GasFewest', WHERE WHAT IT READS IS OF BULK AT MOST 1048576: true; the input reads as it did. -/
def gasFewestUptoRow : OpenClaim := { program := "ytekancfhpbbieaa", sum := "1594e4606acac4ff61889f6883b4ecf4aed8df7a79cb7bc552cff366ac5e7c9c", func := "orlop/orloplaw03.GasFewest", spec := "gasFewest", unfollowed := true, recurses := true, apart := false, narrowed := true }
def GasFewestUptoSaid : Prop := gasFewestUptoRow.holds Try.pinned (OpenSpec.upto gasFewestSpec)

/-- 'orloplaw03.GasWider', WHERE WHAT IT READS IS OF BULK AT MOST 1048576: true; the input reads as it did. -/
def gasWiderUptoRow : OpenClaim := { program := "ytekancfhpbbieaa", sum := "1594e4606acac4ff61889f6883b4ecf4aed8df7a79cb7bc552cff366ac5e7c9c", func := "orlop/orloplaw03.GasWider", spec := "gasWider", unfollowed := true, recurses := true, apart := false, narrowed := true }
def GasWiderUptoSaid : Prop := gasWiderUptoRow.holds Try.pinned (OpenSpec.upto gasWiderSpec)

/-- 'orloplaw03.GasShorter', WHERE WHAT IT READS IS OF BULK AT MOST 1048576: true; the input reads as it did. -/
def gasShorterUptoRow : OpenClaim := { program := "ytekancfhpbbieaa", sum := "1594e4606acac4ff61889f6883b4ecf4aed8df7a79cb7bc552cff366ac5e7c9c", func := "orlop/orloplaw03.GasShorter", spec := "gasShorter", unfollowed := true, recurses := true, apart := false, narrowed := true }
def GasShorterUptoSaid : Prop := gasShorterUptoRow.holds Try.pinned (OpenSpec.upto gasShorterSpec)

end Rows
end Go.Proofs.Ytekancfhpbbieaa
