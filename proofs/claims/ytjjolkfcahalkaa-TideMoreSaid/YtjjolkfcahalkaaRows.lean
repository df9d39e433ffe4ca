/-
  No cell of these rows narrows 'for every input' (looked for: loops, veiled, ifaces, maps, wideKeys, modest, calm, conditions, laid).
  DERIVED. THE GIVEN ROWS OF THIS SEAT. 13 by the template 'for every input the law returns true; each argument reads behind the call as it read before'; 0 by the template 'total and deterministic' (their statements: YtjjolkfcahalkaaTotals.lean).
  GIVEN WITH THE SEED: the statements are not yours to turn. If you find one false, say at which input.
  Laid BY PROGRAM, IN A SANDBOX (cutbox-rows.mjs): the forced cells as the released guide's own fill.sh prints them over the translation 60ed2c6a58fef85b… (all of the seat's roots in one cut). By AI agents, Wed Nov 11 2026. No macro, syntax, notation, axiom, sorry.
-/
import Derived.Test.YtjjolkfcahalkaaChecked
import GoSem.Claim
import GoSem.ClaimJoined
import GoSem.ClaimMapViews
import Derived.JoinedTies
import Derived.KernelRfl
namespace Go.Proofs.Ytjjolkfcahalkaa
/- THE CELL 'sum', in the pinned program and in every row, IS THE sha256 OF THE DUMP (.gsa) THAT YtjjolkfcahalkaaProg.lean LOADS. Nothing in Lean hashes anything: it is a label: what it is worth is what the hold of that sum in a sandbox is worth. -/
noncomputable def Try.pinned : Pinned := { name := "ytjjolkfcahalkaa", sum := "60ed2c6a58fef85b4ff5d83d7f92c6cc36864bbfb4b38b654cc4e50d5da013e1", checked := Try.checked }
namespace Rows
def none {H : Type} : Left H := { results := [], args := [] }

/-- 'orloplaw02.TideStops': WHATEVER THE INPUT: true; the input reads as it did. -/
def tideStopsSpec : ChangeSpec := { name := "tideStops", fn := fun _ => fun
  | [d1, d2, d3] => { results := [.lit (.bool true)], args := [d1, d2, d3] }
  | _ => none }
def tideStopsRow : OpenClaim := { program := "ytjjolkfcahalkaa", sum := "60ed2c6a58fef85b4ff5d83d7f92c6cc36864bbfb4b38b654cc4e50d5da013e1", func := "orlop/orloplaw02.TideStops", spec := "tideStops", unfollowed := true, recurses := true, apart := false }
def TideStopsSaid : Prop := tideStopsRow.holds Try.pinned (OpenSpec.ofChange tideStopsSpec)

/-- ITS FALSE NEIGHBOUR: 'it returns false'. Refute it at one input. -/
def tideStopsWrong : ChangeSpec := { name := "tideStops", fn := fun _ => fun
  | [d1, d2, d3] => { results := [.lit (.bool false)], args := [d1, d2, d3] }
  | _ => none }
def TideStopsWrongFalsely : Prop := tideStopsRow.holds Try.pinned (OpenSpec.ofChange tideStopsWrong)

/-- 'orloplaw02.TideLeasts': WHATEVER THE INPUT: true; the input reads as it did. -/
def tideLeastsSpec : ChangeSpec := { name := "tideLeasts", fn := fun _ => fun
  | [d1, d2, d3] => { results := [.lit (.bool true)], args := [d1, d2, d3] }
  | _ => none }
def tideLeastsRow : OpenClaim := { program := "ytjjolkfcahalkaa", sum := "60ed2c6a58fef85b4ff5d83d7f92c6cc36864bbfb4b38b654cc4e50d5da013e1", func := "orlop/orloplaw02.TideLeasts", spec := "tideLeasts", unfollowed := true, recurses := true, apart := false }
def TideLeastsSaid : Prop := tideLeastsRow.holds Try.pinned (OpenSpec.ofChange tideLeastsSpec)

/-- ITS FALSE NEIGHBOUR: 'it returns false'. Refute it at one input. -/
def tideLeastsWrong : ChangeSpec := { name := "tideLeasts", fn := fun _ => fun
  | [d1, d2, d3] => { results := [.lit (.bool false)], args := [d1, d2, d3] }
  | _ => none }
def TideLeastsWrongFalsely : Prop := tideLeastsRow.holds Try.pinned (OpenSpec.ofChange tideLeastsWrong)

/-- 'orloplaw02.TideMisses': WHATEVER THE INPUT: true; the input reads as it did. -/
def tideMissesSpec : ChangeSpec := { name := "tideMisses", fn := fun _ => fun
  | [d1, d2, d3] => { results := [.lit (.bool true)], args := [d1, d2, d3] }
  | _ => none }
def tideMissesRow : OpenClaim := { program := "ytjjolkfcahalkaa", sum := "60ed2c6a58fef85b4ff5d83d7f92c6cc36864bbfb4b38b654cc4e50d5da013e1", func := "orlop/orloplaw02.TideMisses", spec := "tideMisses", unfollowed := true, recurses := true, apart := false }
def TideMissesSaid : Prop := tideMissesRow.holds Try.pinned (OpenSpec.ofChange tideMissesSpec)

/-- ITS FALSE NEIGHBOUR: 'it returns false'. Refute it at one input. -/
def tideMissesWrong : ChangeSpec := { name := "tideMisses", fn := fun _ => fun
  | [d1, d2, d3] => { results := [.lit (.bool false)], args := [d1, d2, d3] }
  | _ => none }
def TideMissesWrongFalsely : Prop := tideMissesRow.holds Try.pinned (OpenSpec.ofChange tideMissesWrong)

/-- 'orloplaw02.TidePulls': WHATEVER THE INPUT: true; the input reads as it did. -/
def tidePullsSpec : ChangeSpec := { name := "tidePulls", fn := fun _ => fun
  | [d1, d2, d3] => { results := [.lit (.bool true)], args := [d1, d2, d3] }
  | _ => none }
def tidePullsRow : OpenClaim := { program := "ytjjolkfcahalkaa", sum := "60ed2c6a58fef85b4ff5d83d7f92c6cc36864bbfb4b38b654cc4e50d5da013e1", func := "orlop/orloplaw02.TidePulls", spec := "tidePulls", unfollowed := true, recurses := true, apart := false }
def TidePullsSaid : Prop := tidePullsRow.holds Try.pinned (OpenSpec.ofChange tidePullsSpec)

/-- ITS FALSE NEIGHBOUR: 'it returns false'. Refute it at one input. -/
def tidePullsWrong : ChangeSpec := { name := "tidePulls", fn := fun _ => fun
  | [d1, d2, d3] => { results := [.lit (.bool false)], args := [d1, d2, d3] }
  | _ => none }
def TidePullsWrongFalsely : Prop := tidePullsRow.holds Try.pinned (OpenSpec.ofChange tidePullsWrong)

/-- 'orloplaw02.TideKnown': WHATEVER THE INPUT: true; the input reads as it did. -/
def tideKnownSpec : ChangeSpec := { name := "tideKnown", fn := fun _ => fun
  | [] => { results := [.lit (.bool true)], args := [] }
  | _ => none }
def tideKnownRow : OpenClaim := { program := "ytjjolkfcahalkaa", sum := "60ed2c6a58fef85b4ff5d83d7f92c6cc36864bbfb4b38b654cc4e50d5da013e1", func := "orlop/orloplaw02.TideKnown", spec := "tideKnown", unfollowed := true, recurses := true, apart := false }
def TideKnownSaid : Prop := tideKnownRow.holds Try.pinned (OpenSpec.ofChange tideKnownSpec)

/-- ITS FALSE NEIGHBOUR: 'it returns false'. Refute it at one input. -/
def tideKnownWrong : ChangeSpec := { name := "tideKnown", fn := fun _ => fun
  | [] => { results := [.lit (.bool false)], args := [] }
  | _ => none }
def TideKnownWrongFalsely : Prop := tideKnownRow.holds Try.pinned (OpenSpec.ofChange tideKnownWrong)

/-- 'orloplaw02.TideTrue': WHATEVER THE INPUT: true; the input reads as it did. -/
def tideTrueSpec : ChangeSpec := { name := "tideTrue", fn := fun _ => fun
  | [d1, d2, d3] => { results := [.lit (.bool true)], args := [d1, d2, d3] }
  | _ => none }
def tideTrueRow : OpenClaim := { program := "ytjjolkfcahalkaa", sum := "60ed2c6a58fef85b4ff5d83d7f92c6cc36864bbfb4b38b654cc4e50d5da013e1", func := "orlop/orloplaw02.TideTrue", spec := "tideTrue", unfollowed := true, recurses := true, apart := false }
def TideTrueSaid : Prop := tideTrueRow.holds Try.pinned (OpenSpec.ofChange tideTrueSpec)

/-- ITS FALSE NEIGHBOUR: 'it returns false'. Refute it at one input. -/
def tideTrueWrong : ChangeSpec := { name := "tideTrue", fn := fun _ => fun
  | [d1, d2, d3] => { results := [.lit (.bool false)], args := [d1, d2, d3] }
  | _ => none }
def TideTrueWrongFalsely : Prop := tideTrueRow.holds Try.pinned (OpenSpec.ofChange tideTrueWrong)

/-- 'orloplaw02.TideReached': WHATEVER THE INPUT: true; the input reads as it did. -/
def tideReachedSpec : ChangeSpec := { name := "tideReached", fn := fun _ => fun
  | [d1, d2, d3] => { results := [.lit (.bool true)], args := [d1, d2, d3] }
  | _ => none }
def tideReachedRow : OpenClaim := { program := "ytjjolkfcahalkaa", sum := "60ed2c6a58fef85b4ff5d83d7f92c6cc36864bbfb4b38b654cc4e50d5da013e1", func := "orlop/orloplaw02.TideReached", spec := "tideReached", unfollowed := true, recurses := true, apart := false }
def TideReachedSaid : Prop := tideReachedRow.holds Try.pinned (OpenSpec.ofChange tideReachedSpec)

/-- ITS FALSE NEIGHBOUR: 'it returns false'. Refute it at one input. -/
def tideReachedWrong : ChangeSpec := { name := "tideReached", fn := fun _ => fun
  | [d1, d2, d3] => { results := [.lit (.bool false)], args := [d1, d2, d3] }
  | _ => none }
def TideReachedWrongFalsely : Prop := tideReachedRow.holds Try.pinned (OpenSpec.ofChange tideReachedWrong)

/-- 'orloplaw02.TideLeast': WHATEVER THE INPUT: true; the input reads as it did. -/
def tideLeastSpec : ChangeSpec := { name := "tideLeast", fn := fun _ => fun
  | [d1, d2, d3] => { results := [.lit (.bool true)], args := [d1, d2, d3] }
  | _ => none }
def tideLeastRow : OpenClaim := { program := "ytjjolkfcahalkaa", sum := "60ed2c6a58fef85b4ff5d83d7f92c6cc36864bbfb4b38b654cc4e50d5da013e1", func := "orlop/orloplaw02.TideLeast", spec := "tideLeast", unfollowed := true, recurses := true, apart := false }
def TideLeastSaid : Prop := tideLeastRow.holds Try.pinned (OpenSpec.ofChange tideLeastSpec)

/-- ITS FALSE NEIGHBOUR: 'it returns false'. Refute it at one input. -/
def tideLeastWrong : ChangeSpec := { name := "tideLeast", fn := fun _ => fun
  | [d1, d2, d3] => { results := [.lit (.bool false)], args := [d1, d2, d3] }
  | _ => none }
def TideLeastWrongFalsely : Prop := tideLeastRow.holds Try.pinned (OpenSpec.ofChange tideLeastWrong)

/-- 'orloplaw02.TideFirst': WHATEVER THE INPUT: true; the input reads as it did. -/
def tideFirstSpec : ChangeSpec := { name := "tideFirst", fn := fun _ => fun
  | [d1, d2, d3] => { results := [.lit (.bool true)], args := [d1, d2, d3] }
  | _ => none }
def tideFirstRow : OpenClaim := { program := "ytjjolkfcahalkaa", sum := "60ed2c6a58fef85b4ff5d83d7f92c6cc36864bbfb4b38b654cc4e50d5da013e1", func := "orlop/orloplaw02.TideFirst", spec := "tideFirst", unfollowed := true, recurses := true, apart := false }
def TideFirstSaid : Prop := tideFirstRow.holds Try.pinned (OpenSpec.ofChange tideFirstSpec)

/-- ITS FALSE NEIGHBOUR: 'it returns false'. Refute it at one input. -/
def tideFirstWrong : ChangeSpec := { name := "tideFirst", fn := fun _ => fun
  | [d1, d2, d3] => { results := [.lit (.bool false)], args := [d1, d2, d3] }
  | _ => none }
def TideFirstWrongFalsely : Prop := tideFirstRow.holds Try.pinned (OpenSpec.ofChange tideFirstWrong)

/-- 'orloplaw02.TidePulled': WHATEVER THE INPUT: true; the input reads as it did. -/
def tidePulledSpec : ChangeSpec := { name := "tidePulled", fn := fun _ => fun
  | [d1, d2, d3] => { results := [.lit (.bool true)], args := [d1, d2, d3] }
  | _ => none }
def tidePulledRow : OpenClaim := { program := "ytjjolkfcahalkaa", sum := "60ed2c6a58fef85b4ff5d83d7f92c6cc36864bbfb4b38b654cc4e50d5da013e1", func := "orlop/orloplaw02.TidePulled", spec := "tidePulled", unfollowed := true, recurses := true, apart := false }
def TidePulledSaid : Prop := tidePulledRow.holds Try.pinned (OpenSpec.ofChange tidePulledSpec)

/-- ITS FALSE NEIGHBOUR: 'it returns false'. Refute it at one input. -/
def tidePulledWrong : ChangeSpec := { name := "tidePulled", fn := fun _ => fun
  | [d1, d2, d3] => { results := [.lit (.bool false)], args := [d1, d2, d3] }
  | _ => none }
def TidePulledWrongFalsely : Prop := tidePulledRow.holds Try.pinned (OpenSpec.ofChange tidePulledWrong)

/-- 'orloplaw02.TideMore': WHATEVER THE INPUT: true; the input reads as it did. -/
def tideMoreSpec : ChangeSpec := { name := "tideMore", fn := fun _ => fun
  | [d1, d2, d3] => { results := [.lit (.bool true)], args := [d1, d2, d3] }
  | _ => none }
def tideMoreRow : OpenClaim := { program := "ytjjolkfcahalkaa", sum := "60ed2c6a58fef85b4ff5d83d7f92c6cc36864bbfb4b38b654cc4e50d5da013e1", func := "orlop/orloplaw02.TideMore", spec := "tideMore", unfollowed := true, recurses := true, apart := false }
def TideMoreSaid : Prop := tideMoreRow.holds Try.pinned (OpenSpec.ofChange tideMoreSpec)

/-- ITS FALSE NEIGHBOUR: 'it returns false'. Refute it at one input. -/
def tideMoreWrong : ChangeSpec := { name := "tideMore", fn := fun _ => fun
  | [d1, d2, d3] => { results := [.lit (.bool false)], args := [d1, d2, d3] }
  | _ => none }
def TideMoreWrongFalsely : Prop := tideMoreRow.holds Try.pinned (OpenSpec.ofChange tideMoreWrong)

/-- 'orloplaw02.TideNarrow': WHATEVER THE INPUT: true; the input reads as it did. -/
def tideNarrowSpec : ChangeSpec := { name := "tideNarrow", fn := fun _ => fun
  | [d1, d2, d3] => { results := [.lit (.bool true)], args := [d1, d2, d3] }
  | _ => none }
def tideNarrowRow : OpenClaim := { program := "ytjjolkfcahalkaa", sum := "60ed2c6a58fef85b4ff5d83d7f92c6cc36864bbfb4b38b654cc4e50d5da013e1", func := "orlop/orloplaw02.TideNarrow", spec := "tideNarrow", unfollowed := true, recurses := true, apart := false }
def TideNarrowSaid : Prop := tideNarrowRow.holds Try.pinned (OpenSpec.ofChange tideNarrowSpec)

/-- ITS FALSE NEIGHBOUR: 'it returns false'. Refute it at one input. -/
def tideNarrowWrong : ChangeSpec := { name := "tideNarrow", fn := fun _ => fun
  | [d1, d2, d3] => { results := [.lit (.bool false)], args := [d1, d2, d3] }
  | _ => none }
def TideNarrowWrongFalsely : Prop := tideNarrowRow.holds Try.pinned (OpenSpec.ofChange tideNarrowWrong)

/-- 'orloplaw02.TideMoved': WHATEVER THE INPUT: true; the input reads as it did. -/
def tideMovedSpec : ChangeSpec := { name := "tideMoved", fn := fun _ => fun
  | [d1, d2, d3] => { results := [.lit (.bool true)], args := [d1, d2, d3] }
  | _ => none }
def tideMovedRow : OpenClaim := { program := "ytjjolkfcahalkaa", sum := "60ed2c6a58fef85b4ff5d83d7f92c6cc36864bbfb4b38b654cc4e50d5da013e1", func := "orlop/orloplaw02.TideMoved", spec := "tideMoved", unfollowed := true, recurses := true, apart := false }
def TideMovedSaid : Prop := tideMovedRow.holds Try.pinned (OpenSpec.ofChange tideMovedSpec)

/-- ITS FALSE NEIGHBOUR: 'it returns false'. Refute it at one input. -/
def tideMovedWrong : ChangeSpec := { name := "tideMoved", fn := fun _ => fun
  | [d1, d2, d3] => { results := [.lit (.bool false)], args := [d1, d2, d3] }
  | _ => none }
def TideMovedWrongFalsely : Prop := tideMovedRow.holds Try.pinned (OpenSpec.ofChange tideMovedWrong)

/- THE SECOND FORM. 'bulk': how many values and letters a reading holds, each counted each time it is reached (what is shared counts as often as it is met; a slice's spare places count too). A statement '..UptoSaid' is the law's where the arguments, and the package variables that the reading takes, are together of bulk at most 1048576: NARROWER than '..Said'. Prove '..Said' where nothing that the law and all that it calls make is longer than what came in: it says more and counts as full. Else prove '..UptoSaid'. A law counts once. -/
mutual
def uptoBulk {H : Type} : DataW H → Nat
  | .lit (.string bytes) => bytes.length + 1
  | .lit _ => 1
  | .nil => 1
  | .ptr d => uptoBulk d + 1
  | .slice elems spare => uptoBulkAll elems + uptoBulkAll spare + 1
  | .agg parts => uptoBulkAll parts + 1
  | .iface _ d => uptoBulk d + 1
  | .map entries => uptoBulkEntries entries + 1
  | .held _ => 1
def uptoBulkAll {H : Type} : List (DataW H) → Nat
  | [] => 0
  | d :: r => uptoBulk d + uptoBulkAll r
def uptoBulkEntries {H : Type} : List (Lit × DataW H) → Nat
  | [] => 0
  | x :: r => uptoBulkEntry x + uptoBulkEntries r
def uptoBulkEntry {H : Type} : Lit × DataW H → Nat
  | (.string bytes, d) => bytes.length + uptoBulk d + 1
  | (_, d) => uptoBulk d + 1
 end
def uptoSmall : (H : Type) → List (DataW H) → Bool := fun _ ds => decide (uptoBulkAll ds ≤ 1048576)
def OpenSpec.upto (s : _root_.Go.ChangeSpec) : _root_.Go.OpenSpec := { _root_.Go.OpenSpec.ofChange s with cond := some uptoSmall }

/-- 'orloplaw02.TideStops', WHERE WHAT IT READS IS OF BULK AT MOST 1048576: true; the input reads as it did. -/
def tideStopsUptoRow : OpenClaim := { program := "ytjjolkfcahalkaa", sum := "60ed2c6a58fef85b4ff5d83d7f92c6cc36864bbfb4b38b654cc4e50d5da013e1", func := "orlop/orloplaw02.TideStops", spec := "tideStops", unfollowed := true, recurses := true, apart := false, narrowed := true }
def TideStopsUptoSaid : Prop := tideStopsUptoRow.holds Try.pinned (OpenSpec.upto tideStopsSpec)

/-- 'orloplaw02.TideLeasts', WHERE WHAT IT READS IS OF BULK AT MOST 1048576: true; the input reads as it did. -/
def tideLeastsUptoRow : OpenClaim := { program := "ytjjolkfcahalkaa", sum := "60ed2c6a58fef85b4ff5d83d7f92c6cc36864bbfb4b38b654cc4e50d5da013e1", func := "orlop/orloplaw02.TideLeasts", spec := "tideLeasts", unfollowed := true, recurses := true, apart := false, narrowed := true }
def TideLeastsUptoSaid : Prop := tideLeastsUptoRow.holds Try.pinned (OpenSpec.upto tideLeastsSpec)

/-- 'orloplaw02.TideMisses', WHERE WHAT IT READS IS OF BULK AT MOST 1048576: true; the input reads as it did. -/
def tideMissesUptoRow : OpenClaim := { program := "ytjjolkfcahalkaa", sum := "60ed2c6a58fef85b4ff5d83d7f92c6cc36864bbfb4b38b654cc4e50d5da013e1", func := "orlop/orloplaw02.TideMisses", spec := "tideMisses", unfollowed := true, recurses := true, apart := false, narrowed := true }
def TideMissesUptoSaid : Prop := tideMissesUptoRow.holds Try.pinned (OpenSpec.upto tideMissesSpec)

/-- 'orloplaw02.TidePulls', WHERE WHAT IT READS IS OF BULK AT MOST 1048576: true; the input reads as it did. -/
def tidePullsUptoRow : OpenClaim := { program := "ytjjolkfcahalkaa", sum := "60ed2c6a58fef85b4ff5d83d7f92c6cc36864bbfb4b38b654cc4e50d5da013e1", func := "orlop/orloplaw02.TidePulls", spec := "tidePulls", unfollowed := true, recurses := true, apart := false, narrowed := true }
def TidePullsUptoSaid : Prop := tidePullsUptoRow.holds Try.pinned (OpenSpec.upto tidePullsSpec)

/-- 'orloplaw02.TideKnown', WHERE WHAT IT READS IS OF BULK AT MOST 1048576: true; the input reads as it did. -/
def tideKnownUptoRow : OpenClaim := { program := "ytjjolkfcahalkaa", sum := "60ed2c6a58fef85b4ff5d83d7f92c6cc36864bbfb4b38b654cc4e50d5da013e1", func := "orlop/orloplaw02.TideKnown", spec := "tideKnown", unfollowed := true, recurses := true, apart := false, narrowed := true }
def TideKnownUptoSaid : Prop := tideKnownUptoRow.holds Try.pinned (OpenSpec.upto tideKnownSpec)

/-- 'orloplaw02.TideTrue', WHERE WHAT IT READS IS OF BULK AT MOST 1048576: true; the input reads as it did. -/
def tideTrueUptoRow : OpenClaim := { program := "ytjjolkfcahalkaa", sum := "60ed2c6a58fef85b4ff5d83d7f92c6cc36864bbfb4b38b654cc4e50d5da013e1", func := "orlop/orloplaw02.TideTrue", spec := "tideTrue", unfollowed := true, recurses := true, apart := false, narrowed := true }
def TideTrueUptoSaid : Prop := tideTrueUptoRow.holds Try.pinned (OpenSpec.upto tideTrueSpec)

/-- 'orloplaw02.TideReached', WHERE WHAT IT READS IS OF BULK AT MOST 1048576: true; the input reads as it did. -/
def tideReachedUptoRow : OpenClaim := { program := "ytjjolkfcahalkaa", sum := "60ed2c6a58fef85b4ff5d83d7f92c6cc36864bbfb4b38b654cc4e50d5da013e1", func := "orlop/orloplaw02.TideReached", spec := "tideReached", unfollowed := true, recurses := true, apart := false, narrowed := true }
def TideReachedUptoSaid : Prop := tideReachedUptoRow.holds Try.pinned (OpenSpec.upto tideReachedSpec)

/-- 'orloplaw02.TideLeast', WHERE WHAT IT READS IS OF BULK AT MOST 1048576: true; the input reads as it did. -/
def tideLeastUptoRow : OpenClaim := { program := "ytjjolkfcahalkaa", sum := "60ed2c6a58fef85b4ff5d83d7f92c6cc36864bbfb4b38b654cc4e50d5da013e1", func := "orlop/orloplaw02.TideLeast", spec := "tideLeast", unfollowed := true, recurses := true, apart := false, narrowed := true }
def TideLeastUptoSaid : Prop := tideLeastUptoRow.holds Try.pinned (OpenSpec.upto tideLeastSpec)

/-- 'orloplaw02.TideFirst', WHERE WHAT IT READS IS OF BULK AT MOST 1048576: true; the input reads as it did. -/
def tideFirstUptoRow : OpenClaim := { program := "ytjjolkfcahalkaa", sum := "60ed2c6a58fef85b4ff5d83d7f92c6cc36864bbfb4b38b654cc4e50d5da013e1", func := "orlop/orloplaw02.TideFirst", spec := "tideFirst", unfollowed := true, recurses := true, apart := false, narrowed := true }
def TideFirstUptoSaid : Prop := tideFirstUptoRow.holds Try.pinned (OpenSpec.upto tideFirstSpec)

/-- 'orloplaw02.TidePulled', WHERE WHAT IT READS IS OF BULK AT MOST 1048576: true; the input reads as it did. -/
def tidePulledUptoRow : OpenClaim := { program := "ytjjolkfcahalkaa", sum := "60ed2c6a58fef85b4ff5d83d7f92c6cc36864bbfb4b38b654cc4e50d5da013e1", func := "orlop/orloplaw02.TidePulled", spec := "tidePulled", unfollowed := true, recurses := true, apart := false, narrowed := true }
def TidePulledUptoSaid : Prop := tidePulledUptoRow.holds Try.pinned (OpenSpec.upto tidePulledSpec)

/-- 'orloplaw02.TideMore', WHERE WHAT IT READS IS OF BULK AT MOST 1048576: true; the input reads as it did. -/
def tideMoreUptoRow : OpenClaim := { program := "ytjjolkfcahalkaa", sum := "60ed2c6a58fef85b4ff5d83d7f92c6cc36864bbfb4b38b654cc4e50d5da013e1", func := "orlop/orloplaw02.TideMore", spec := "tideMore", unfollowed := true, recurses := true, apart := false, narrowed := true }
def TideMoreUptoSaid : Prop := tideMoreUptoRow.holds Try.pinned (OpenSpec.upto tideMoreSpec)

/-- 'orloplaw02.TideNarrow', WHERE WHAT IT READS IS OF BULK AT MOST 1048576: true; the input reads as it did. -/
def tideNarrowUptoRow : OpenClaim := { program := "ytjjolkfcahalkaa", sum := "60ed2c6a58fef85b4ff5d83d7f92c6cc36864bbfb4b38b654cc4e50d5da013e1", func := "orlop/orloplaw02.TideNarrow", spec := "tideNarrow", unfollowed := true, recurses := true, apart := false, narrowed := true }
def TideNarrowUptoSaid : Prop := tideNarrowUptoRow.holds Try.pinned (OpenSpec.upto tideNarrowSpec)

/-- 'orloplaw02.TideMoved', WHERE WHAT IT READS IS OF BULK AT MOST 1048576: true; the input reads as it did. -/
def tideMovedUptoRow : OpenClaim := { program := "ytjjolkfcahalkaa", sum := "60ed2c6a58fef85b4ff5d83d7f92c6cc36864bbfb4b38b654cc4e50d5da013e1", func := "orlop/orloplaw02.TideMoved", spec := "tideMoved", unfollowed := true, recurses := true, apart := false, narrowed := true }
def TideMovedUptoSaid : Prop := tideMovedUptoRow.holds Try.pinned (OpenSpec.upto tideMovedSpec)

end Rows
end Go.Proofs.Ytjjolkfcahalkaa
