/-
  NARROWER THAN 'FOR EVERY INPUT', by the rows' own cells (each row's printed sentence says how): WaterCan: laid · WaterSources: laid · WaterAsk: laid · WaterKnown: laid · WaterTrue: laid · WaterMust: laid · WaterFewest: laid · WaterMore: laid · WaterAsked: laid · WaterOrder: laid · WaterTurned: laid · WaterWider: laid.
  DERIVED. THE GIVEN ROWS OF THIS SEAT. 12 by the template 'for every input the law returns true; each argument reads behind the call as it read before'; 0 by the template 'total and deterministic' (their statements: YtnedncdhnggooaaDoorTotals.lean).
  GIVEN WITH THE SEED: the statements are not yours to turn. If you find one false, say at which input.
  Laid BY PROGRAM, IN A SANDBOX (cutbox-rows.mjs): the forced cells as the released guide's own fill.sh prints them over the translation 3e3973e22f0536bd… (all of the seat's roots in one cut). By AI agents, Wed Nov 11 2026. No macro, syntax, notation, axiom, sorry.
-/
import Derived.Test.YtnedncdhnggooaaDoorChecked
import GoSem.Claim
import GoSem.ClaimJoined
import GoSem.ClaimMapViews
import Derived.JoinedTies
import Derived.KernelRfl
namespace Go.Proofs.YtnedncdhnggooaaDoor
/- THE CELL 'sum', in the pinned program and in every row, IS THE sha256 OF THE DUMP (.gsa) THAT YtnedncdhnggooaaDoorProg.lean LOADS. Nothing in Lean hashes anything: it is a label: what it is worth is what the hold of that sum in a sandbox is worth. -/
noncomputable def Tryd.pinned : Pinned := { name := "ytnedncdhnggooaadoor", sum := "3e3973e22f0536bdd4a26af25f3caf1bc62f157c2188780a2c12c4203e424ada", checked := Tryd.checked }
namespace Rows
def none {H : Type} : Left H := { results := [], args := [] }

/- WHAT THE LISTED PACKAGE-LEVEL VARIABLES READ AS WHEN THE CALL BEGINS. Each datum BY PROGRAM (the guide's laid-datum.mjs) off the statement by which the dump's own 'gosem.cut.vars' lays the variable. In a bare row this is a premise. The card (YtnedncdhnggooaaDoorCards.lean) ties it to the program's text. -/
def laid_math_bits_deBruijn32tab {H : Type} : DataW H := .agg [.lit (.int .u8 0), .lit (.int .u8 1), .lit (.int .u8 28), .lit (.int .u8 2), .lit (.int .u8 29), .lit (.int .u8 14), .lit (.int .u8 24), .lit (.int .u8 3), .lit (.int .u8 30), .lit (.int .u8 22), .lit (.int .u8 20), .lit (.int .u8 15), .lit (.int .u8 25), .lit (.int .u8 17), .lit (.int .u8 4), .lit (.int .u8 8), .lit (.int .u8 31), .lit (.int .u8 27), .lit (.int .u8 13), .lit (.int .u8 23), .lit (.int .u8 21), .lit (.int .u8 19), .lit (.int .u8 16), .lit (.int .u8 7), .lit (.int .u8 26), .lit (.int .u8 12), .lit (.int .u8 18), .lit (.int .u8 6), .lit (.int .u8 11), .lit (.int .u8 5), .lit (.int .u8 10), .lit (.int .u8 9)]
def laid_math_bits_deBruijn64tab {H : Type} : DataW H := .agg [.lit (.int .u8 0), .lit (.int .u8 1), .lit (.int .u8 56), .lit (.int .u8 2), .lit (.int .u8 57), .lit (.int .u8 49), .lit (.int .u8 28), .lit (.int .u8 3), .lit (.int .u8 61), .lit (.int .u8 58), .lit (.int .u8 42), .lit (.int .u8 50), .lit (.int .u8 38), .lit (.int .u8 29), .lit (.int .u8 17), .lit (.int .u8 4), .lit (.int .u8 62), .lit (.int .u8 47), .lit (.int .u8 59), .lit (.int .u8 36), .lit (.int .u8 45), .lit (.int .u8 43), .lit (.int .u8 51), .lit (.int .u8 22), .lit (.int .u8 53), .lit (.int .u8 39), .lit (.int .u8 33), .lit (.int .u8 30), .lit (.int .u8 24), .lit (.int .u8 18), .lit (.int .u8 12), .lit (.int .u8 5), .lit (.int .u8 63), .lit (.int .u8 55), .lit (.int .u8 48), .lit (.int .u8 27), .lit (.int .u8 60), .lit (.int .u8 41), .lit (.int .u8 37), .lit (.int .u8 16), .lit (.int .u8 46), .lit (.int .u8 35), .lit (.int .u8 44), .lit (.int .u8 21), .lit (.int .u8 52), .lit (.int .u8 32), .lit (.int .u8 23), .lit (.int .u8 11), .lit (.int .u8 54), .lit (.int .u8 26), .lit (.int .u8 40), .lit (.int .u8 15), .lit (.int .u8 34), .lit (.int .u8 20), .lit (.int .u8 31), .lit (.int .u8 10), .lit (.int .u8 25), .lit (.int .u8 14), .lit (.int .u8 19), .lit (.int .u8 9), .lit (.int .u8 13), .lit (.int .u8 8), .lit (.int .u8 7), .lit (.int .u8 6)]

/-- 'orloplaw12.WaterCan': WHATEVER THE INPUT: true; the input reads as it did. -/
def waterCanSpec : ChangeSpec := { name := "waterCan", fn := fun _ => fun
  | [d1, d2, d3] => { results := [.lit (.bool true)], args := [d1, d2, d3] }
  | _ => none }
def waterCanRow : OpenClaim := { program := "ytnedncdhnggooaadoor", sum := "3e3973e22f0536bdd4a26af25f3caf1bc62f157c2188780a2c12c4203e424ada", func := "orlop/orloplaw12.WaterCan", spec := "waterCan", unfollowed := true, recurses := true, named := ["math/bits.deBruijn32tab", "math/bits.deBruijn64tab"], plainKeys := false, apart := false, laid := [("math/bits.deBruijn32tab", laid_math_bits_deBruijn32tab), ("math/bits.deBruijn64tab", laid_math_bits_deBruijn64tab)] }
def WaterCanSaid : Prop := waterCanRow.holds Tryd.pinned (OpenSpec.ofChange waterCanSpec)

/-- ITS FALSE NEIGHBOUR: 'it returns false'. Refute it at one input. -/
def waterCanWrong : ChangeSpec := { name := "waterCan", fn := fun _ => fun
  | [d1, d2, d3] => { results := [.lit (.bool false)], args := [d1, d2, d3] }
  | _ => none }
def WaterCanWrongFalsely : Prop := waterCanRow.holds Tryd.pinned (OpenSpec.ofChange waterCanWrong)

/-- 'orloplaw12.WaterSources': WHATEVER THE INPUT: true; the input reads as it did. -/
def waterSourcesSpec : ChangeSpec := { name := "waterSources", fn := fun _ => fun
  | [d1, d2] => { results := [.lit (.bool true)], args := [d1, d2] }
  | _ => none }
def waterSourcesRow : OpenClaim := { program := "ytnedncdhnggooaadoor", sum := "3e3973e22f0536bdd4a26af25f3caf1bc62f157c2188780a2c12c4203e424ada", func := "orlop/orloplaw12.WaterSources", spec := "waterSources", unfollowed := true, recurses := true, named := ["math/bits.deBruijn32tab", "math/bits.deBruijn64tab"], plainKeys := false, apart := false, laid := [("math/bits.deBruijn32tab", laid_math_bits_deBruijn32tab), ("math/bits.deBruijn64tab", laid_math_bits_deBruijn64tab)] }
def WaterSourcesSaid : Prop := waterSourcesRow.holds Tryd.pinned (OpenSpec.ofChange waterSourcesSpec)

/-- ITS FALSE NEIGHBOUR: 'it returns false'. Refute it at one input. -/
def waterSourcesWrong : ChangeSpec := { name := "waterSources", fn := fun _ => fun
  | [d1, d2] => { results := [.lit (.bool false)], args := [d1, d2] }
  | _ => none }
def WaterSourcesWrongFalsely : Prop := waterSourcesRow.holds Tryd.pinned (OpenSpec.ofChange waterSourcesWrong)

/-- 'orloplaw12.WaterAsk': WHATEVER THE INPUT: true; the input reads as it did. -/
def waterAskSpec : ChangeSpec := { name := "waterAsk", fn := fun _ => fun
  | [d1, d2, d3] => { results := [.lit (.bool true)], args := [d1, d2, d3] }
  | _ => none }
def waterAskRow : OpenClaim := { program := "ytnedncdhnggooaadoor", sum := "3e3973e22f0536bdd4a26af25f3caf1bc62f157c2188780a2c12c4203e424ada", func := "orlop/orloplaw12.WaterAsk", spec := "waterAsk", unfollowed := true, recurses := true, named := ["math/bits.deBruijn32tab", "math/bits.deBruijn64tab"], plainKeys := false, apart := false, laid := [("math/bits.deBruijn32tab", laid_math_bits_deBruijn32tab), ("math/bits.deBruijn64tab", laid_math_bits_deBruijn64tab)] }
def WaterAskSaid : Prop := waterAskRow.holds Tryd.pinned (OpenSpec.ofChange waterAskSpec)

/-- ITS FALSE NEIGHBOUR: 'it returns false'. Refute it at one input. -/
def waterAskWrong : ChangeSpec := { name := "waterAsk", fn := fun _ => fun
  | [d1, d2, d3] => { results := [.lit (.bool false)], args := [d1, d2, d3] }
  | _ => none }
def WaterAskWrongFalsely : Prop := waterAskRow.holds Tryd.pinned (OpenSpec.ofChange waterAskWrong)

/-- 'orloplaw12.WaterKnown': WHATEVER THE INPUT: true; the input reads as it did. -/
def waterKnownSpec : ChangeSpec := { name := "waterKnown", fn := fun _ => fun
  | [] => { results := [.lit (.bool true)], args := [] }
  | _ => none }
def waterKnownRow : OpenClaim := { program := "ytnedncdhnggooaadoor", sum := "3e3973e22f0536bdd4a26af25f3caf1bc62f157c2188780a2c12c4203e424ada", func := "orlop/orloplaw12.WaterKnown", spec := "waterKnown", unfollowed := true, recurses := true, named := ["math/bits.deBruijn32tab", "math/bits.deBruijn64tab"], plainKeys := false, apart := false, laid := [("math/bits.deBruijn32tab", laid_math_bits_deBruijn32tab), ("math/bits.deBruijn64tab", laid_math_bits_deBruijn64tab)] }
def WaterKnownSaid : Prop := waterKnownRow.holds Tryd.pinned (OpenSpec.ofChange waterKnownSpec)

/-- ITS FALSE NEIGHBOUR: 'it returns false'. Refute it at one input. -/
def waterKnownWrong : ChangeSpec := { name := "waterKnown", fn := fun _ => fun
  | [] => { results := [.lit (.bool false)], args := [] }
  | _ => none }
def WaterKnownWrongFalsely : Prop := waterKnownRow.holds Tryd.pinned (OpenSpec.ofChange waterKnownWrong)

/-- 'orloplaw12.WaterTrue': WHATEVER THE INPUT: true; the input reads as it did. -/
def waterTrueSpec : ChangeSpec := { name := "waterTrue", fn := fun _ => fun
  | [d1, d2] => { results := [.lit (.bool true)], args := [d1, d2] }
  | _ => none }
def waterTrueRow : OpenClaim := { program := "ytnedncdhnggooaadoor", sum := "3e3973e22f0536bdd4a26af25f3caf1bc62f157c2188780a2c12c4203e424ada", func := "orlop/orloplaw12.WaterTrue", spec := "waterTrue", unfollowed := true, recurses := true, named := ["math/bits.deBruijn32tab", "math/bits.deBruijn64tab"], plainKeys := false, apart := false, laid := [("math/bits.deBruijn32tab", laid_math_bits_deBruijn32tab), ("math/bits.deBruijn64tab", laid_math_bits_deBruijn64tab)] }
def WaterTrueSaid : Prop := waterTrueRow.holds Tryd.pinned (OpenSpec.ofChange waterTrueSpec)

/-- ITS FALSE NEIGHBOUR: 'it returns false'. Refute it at one input. -/
def waterTrueWrong : ChangeSpec := { name := "waterTrue", fn := fun _ => fun
  | [d1, d2] => { results := [.lit (.bool false)], args := [d1, d2] }
  | _ => none }
def WaterTrueWrongFalsely : Prop := waterTrueRow.holds Tryd.pinned (OpenSpec.ofChange waterTrueWrong)

/-- 'orloplaw12.WaterMust': WHATEVER THE INPUT: true; the input reads as it did. -/
def waterMustSpec : ChangeSpec := { name := "waterMust", fn := fun _ => fun
  | [d1, d2, d3] => { results := [.lit (.bool true)], args := [d1, d2, d3] }
  | _ => none }
def waterMustRow : OpenClaim := { program := "ytnedncdhnggooaadoor", sum := "3e3973e22f0536bdd4a26af25f3caf1bc62f157c2188780a2c12c4203e424ada", func := "orlop/orloplaw12.WaterMust", spec := "waterMust", unfollowed := true, recurses := true, named := ["math/bits.deBruijn32tab", "math/bits.deBruijn64tab"], plainKeys := false, apart := false, laid := [("math/bits.deBruijn32tab", laid_math_bits_deBruijn32tab), ("math/bits.deBruijn64tab", laid_math_bits_deBruijn64tab)] }
def WaterMustSaid : Prop := waterMustRow.holds Tryd.pinned (OpenSpec.ofChange waterMustSpec)

/-- ITS FALSE NEIGHBOUR: 'it returns false'. Refute it at one input. -/
def waterMustWrong : ChangeSpec := { name := "waterMust", fn := fun _ => fun
  | [d1, d2, d3] => { results := [.lit (.bool false)], args := [d1, d2, d3] }
  | _ => none }
def WaterMustWrongFalsely : Prop := waterMustRow.holds Tryd.pinned (OpenSpec.ofChange waterMustWrong)

/-- 'orloplaw12.WaterFewest': WHATEVER THE INPUT: true; the input reads as it did. -/
def waterFewestSpec : ChangeSpec := { name := "waterFewest", fn := fun _ => fun
  | [d1, d2, d3] => { results := [.lit (.bool true)], args := [d1, d2, d3] }
  | _ => none }
def waterFewestRow : OpenClaim := { program := "ytnedncdhnggooaadoor", sum := "3e3973e22f0536bdd4a26af25f3caf1bc62f157c2188780a2c12c4203e424ada", func := "orlop/orloplaw12.WaterFewest", spec := "waterFewest", unfollowed := true, recurses := true, named := ["math/bits.deBruijn32tab", "math/bits.deBruijn64tab"], plainKeys := false, apart := false, laid := [("math/bits.deBruijn32tab", laid_math_bits_deBruijn32tab), ("math/bits.deBruijn64tab", laid_math_bits_deBruijn64tab)] }
def WaterFewestSaid : Prop := waterFewestRow.holds Tryd.pinned (OpenSpec.ofChange waterFewestSpec)

/-- ITS FALSE NEIGHBOUR: 'it returns false'. Refute it at one input. -/
def waterFewestWrong : ChangeSpec := { name := "waterFewest", fn := fun _ => fun
  | [d1, d2, d3] => { results := [.lit (.bool false)], args := [d1, d2, d3] }
  | _ => none }
def WaterFewestWrongFalsely : Prop := waterFewestRow.holds Tryd.pinned (OpenSpec.ofChange waterFewestWrong)

/-- 'orloplaw12.WaterMore': WHATEVER THE INPUT: true; the input reads as it did. -/
def waterMoreSpec : ChangeSpec := { name := "waterMore", fn := fun _ => fun
  | [d1, d2, d3] => { results := [.lit (.bool true)], args := [d1, d2, d3] }
  | _ => none }
def waterMoreRow : OpenClaim := { program := "ytnedncdhnggooaadoor", sum := "3e3973e22f0536bdd4a26af25f3caf1bc62f157c2188780a2c12c4203e424ada", func := "orlop/orloplaw12.WaterMore", spec := "waterMore", unfollowed := true, recurses := true, named := ["math/bits.deBruijn32tab", "math/bits.deBruijn64tab"], plainKeys := false, apart := false, laid := [("math/bits.deBruijn32tab", laid_math_bits_deBruijn32tab), ("math/bits.deBruijn64tab", laid_math_bits_deBruijn64tab)] }
def WaterMoreSaid : Prop := waterMoreRow.holds Tryd.pinned (OpenSpec.ofChange waterMoreSpec)

/-- ITS FALSE NEIGHBOUR: 'it returns false'. Refute it at one input. -/
def waterMoreWrong : ChangeSpec := { name := "waterMore", fn := fun _ => fun
  | [d1, d2, d3] => { results := [.lit (.bool false)], args := [d1, d2, d3] }
  | _ => none }
def WaterMoreWrongFalsely : Prop := waterMoreRow.holds Tryd.pinned (OpenSpec.ofChange waterMoreWrong)

/-- 'orloplaw12.WaterAsked': WHATEVER THE INPUT: true; the input reads as it did. -/
def waterAskedSpec : ChangeSpec := { name := "waterAsked", fn := fun _ => fun
  | [d1, d2, d3] => { results := [.lit (.bool true)], args := [d1, d2, d3] }
  | _ => none }
def waterAskedRow : OpenClaim := { program := "ytnedncdhnggooaadoor", sum := "3e3973e22f0536bdd4a26af25f3caf1bc62f157c2188780a2c12c4203e424ada", func := "orlop/orloplaw12.WaterAsked", spec := "waterAsked", unfollowed := true, recurses := true, named := ["math/bits.deBruijn32tab", "math/bits.deBruijn64tab"], plainKeys := false, apart := false, laid := [("math/bits.deBruijn32tab", laid_math_bits_deBruijn32tab), ("math/bits.deBruijn64tab", laid_math_bits_deBruijn64tab)] }
def WaterAskedSaid : Prop := waterAskedRow.holds Tryd.pinned (OpenSpec.ofChange waterAskedSpec)

/-- ITS FALSE NEIGHBOUR: 'it returns false'. Refute it at one input. -/
def waterAskedWrong : ChangeSpec := { name := "waterAsked", fn := fun _ => fun
  | [d1, d2, d3] => { results := [.lit (.bool false)], args := [d1, d2, d3] }
  | _ => none }
def WaterAskedWrongFalsely : Prop := waterAskedRow.holds Tryd.pinned (OpenSpec.ofChange waterAskedWrong)

/-- 'orloplaw12.WaterOrder': WHATEVER THE INPUT: true; the input reads as it did. -/
def waterOrderSpec : ChangeSpec := { name := "waterOrder", fn := fun _ => fun
  | [d1, d2, d3] => { results := [.lit (.bool true)], args := [d1, d2, d3] }
  | _ => none }
def waterOrderRow : OpenClaim := { program := "ytnedncdhnggooaadoor", sum := "3e3973e22f0536bdd4a26af25f3caf1bc62f157c2188780a2c12c4203e424ada", func := "orlop/orloplaw12.WaterOrder", spec := "waterOrder", unfollowed := true, recurses := true, named := ["math/bits.deBruijn32tab", "math/bits.deBruijn64tab"], plainKeys := false, apart := false, laid := [("math/bits.deBruijn32tab", laid_math_bits_deBruijn32tab), ("math/bits.deBruijn64tab", laid_math_bits_deBruijn64tab)] }
def WaterOrderSaid : Prop := waterOrderRow.holds Tryd.pinned (OpenSpec.ofChange waterOrderSpec)

/-- ITS FALSE NEIGHBOUR: 'it returns false'. Refute it at one input. -/
def waterOrderWrong : ChangeSpec := { name := "waterOrder", fn := fun _ => fun
  | [d1, d2, d3] => { results := [.lit (.bool false)], args := [d1, d2, d3] }
  | _ => none }
def WaterOrderWrongFalsely : Prop := waterOrderRow.holds Tryd.pinned (OpenSpec.ofChange waterOrderWrong)

/-- 'orloplaw12.WaterTurned': WHATEVER THE INPUT: true; the input reads as it did. -/
def waterTurnedSpec : ChangeSpec := { name := "waterTurned", fn := fun _ => fun
  | [d1, d2, d3] => { results := [.lit (.bool true)], args := [d1, d2, d3] }
  | _ => none }
def waterTurnedRow : OpenClaim := { program := "ytnedncdhnggooaadoor", sum := "3e3973e22f0536bdd4a26af25f3caf1bc62f157c2188780a2c12c4203e424ada", func := "orlop/orloplaw12.WaterTurned", spec := "waterTurned", unfollowed := true, recurses := true, named := ["math/bits.deBruijn32tab", "math/bits.deBruijn64tab"], plainKeys := false, apart := false, laid := [("math/bits.deBruijn32tab", laid_math_bits_deBruijn32tab), ("math/bits.deBruijn64tab", laid_math_bits_deBruijn64tab)] }
def WaterTurnedSaid : Prop := waterTurnedRow.holds Tryd.pinned (OpenSpec.ofChange waterTurnedSpec)

/-- ITS FALSE NEIGHBOUR: 'it returns false'. Refute it at one input. -/
def waterTurnedWrong : ChangeSpec := { name := "waterTurned", fn := fun _ => fun
  | [d1, d2, d3] => { results := [.lit (.bool false)], args := [d1, d2, d3] }
  | _ => none }
def WaterTurnedWrongFalsely : Prop := waterTurnedRow.holds Tryd.pinned (OpenSpec.ofChange waterTurnedWrong)

/-- 'orloplaw12.WaterWider': WHATEVER THE INPUT: true; the input reads as it did. -/
def waterWiderSpec : ChangeSpec := { name := "waterWider", fn := fun _ => fun
  | [d1, d2, d3] => { results := [.lit (.bool true)], args := [d1, d2, d3] }
  | _ => none }
def waterWiderRow : OpenClaim := { program := "ytnedncdhnggooaadoor", sum := "3e3973e22f0536bdd4a26af25f3caf1bc62f157c2188780a2c12c4203e424ada", func := "orlop/orloplaw12.WaterWider", spec := "waterWider", unfollowed := true, recurses := true, named := ["math/bits.deBruijn32tab", "math/bits.deBruijn64tab"], plainKeys := false, apart := false, laid := [("math/bits.deBruijn32tab", laid_math_bits_deBruijn32tab), ("math/bits.deBruijn64tab", laid_math_bits_deBruijn64tab)] }
def WaterWiderSaid : Prop := waterWiderRow.holds Tryd.pinned (OpenSpec.ofChange waterWiderSpec)

/-- ITS FALSE NEIGHBOUR: 'it returns false'. Refute it at one input. -/
def waterWiderWrong : ChangeSpec := { name := "waterWider", fn := fun _ => fun
  | [d1, d2, d3] => { results := [.lit (.bool false)], args := [d1, d2, d3] }
  | _ => none }
def WaterWiderWrongFalsely : Prop := waterWiderRow.holds Tryd.pinned (OpenSpec.ofChange waterWiderWrong)

/- THE SECOND FORM. 'bulk': how many values and letters a reading holds, each counted each time it is reached (what is shared counts as often as it is met; a slice's spare places count too). A statement '..UptoSaid' is the law's where the arguments, and the package variables that the reading takes, are together of bulk at most 1048576: NARROWER than '..Said'. Prove '..Said' where nothing that the law and all that it calls make is longer than what came in: it says more and counts as full. Else prove '..UptoSaid'. A law counts once. -/
mutual
def uptoBulk {H : Type} : DataW H → Nat
  | .lit (.string bytes) => bytes.length + 1
  | .lit _ => 1
  | .nil => 1
  | .ptr d => uptoBulk d + 1
  | .slice elems spare => uptoBulkAll elems + uptoBulkAll spare + 1
  | .agg parts => uptoBulkAll parts + 1
  | .iface _ d => uptoBulk d + 1
  | .map entries => uptoBulkEntries entries + 1
  | .held _ => 1
def uptoBulkAll {H : Type} : List (DataW H) → Nat
  | [] => 0
  | d :: r => uptoBulk d + uptoBulkAll r
def uptoBulkEntries {H : Type} : List (Lit × DataW H) → Nat
  | [] => 0
  | x :: r => uptoBulkEntry x + uptoBulkEntries r
def uptoBulkEntry {H : Type} : Lit × DataW H → Nat
  | (.string bytes, d) => bytes.length + uptoBulk d + 1
  | (_, d) => uptoBulk d + 1
 end
def uptoSmall : (H : Type) → List (DataW H) → Bool := fun _ ds => decide (uptoBulkAll ds ≤ 1048576)
def OpenSpec.upto (s : _root_.Go.ChangeSpec) : _root_.Go.OpenSpec := { _root_.Go.OpenSpec.ofChange s with cond := some uptoSmall }

/-- 'orloplaw12.WaterCan', WHERE WHAT IT READS IS OF BULK AT MOST 1048576: true; the input reads as it did. -/
def waterCanUptoRow : OpenClaim := { program := "ytnedncdhnggooaadoor", sum := "3e3973e22f0536bdd4a26af25f3caf1bc62f157c2188780a2c12c4203e424ada", func := "orlop/orloplaw12.WaterCan", spec := "waterCan", unfollowed := true, recurses := true, named := ["math/bits.deBruijn32tab", "math/bits.deBruijn64tab"], plainKeys := false, apart := false, laid := [("math/bits.deBruijn32tab", laid_math_bits_deBruijn32tab), ("math/bits.deBruijn64tab", laid_math_bits_deBruijn64tab)], narrowed := true }
def WaterCanUptoSaid : Prop := waterCanUptoRow.holds Tryd.pinned (OpenSpec.upto waterCanSpec)

/-- 'orloplaw12.WaterSources', WHERE WHAT IT READS IS OF BULK AT MOST 1048576: true; the input reads as it did. -/
def waterSourcesUptoRow : OpenClaim := { program := "ytnedncdhnggooaadoor", sum := "3e3973e22f0536bdd4a26af25f3caf1bc62f157c2188780a2c12c4203e424ada", func := "orlop/orloplaw12.WaterSources", spec := "waterSources", unfollowed := true, recurses := true, named := ["math/bits.deBruijn32tab", "math/bits.deBruijn64tab"], plainKeys := false, apart := false, laid := [("math/bits.deBruijn32tab", laid_math_bits_deBruijn32tab), ("math/bits.deBruijn64tab", laid_math_bits_deBruijn64tab)], narrowed := true }
def WaterSourcesUptoSaid : Prop := waterSourcesUptoRow.holds Tryd.pinned (OpenSpec.upto waterSourcesSpec)

/-- 'orloplaw12.WaterAsk', WHERE WHAT IT READS IS OF BULK AT MOST 1048576: true; the input reads as it did. -/
def waterAskUptoRow : OpenClaim := { program := "ytnedncdhnggooaadoor", sum := "3e3973e22f0536bdd4a26af25f3caf1bc62f157c2188780a2c12c4203e424ada", func := "orlop/orloplaw12.WaterAsk", spec := "waterAsk", unfollowed := true, recurses := true, named := ["math/bits.deBruijn32tab", "math/bits.deBruijn64tab"], plainKeys := false, apart := false, laid := [("math/bits.deBruijn32tab", laid_math_bits_deBruijn32tab), ("math/bits.deBruijn64tab", laid_math_bits_deBruijn64tab)], narrowed := true }
def WaterAskUptoSaid : Prop := waterAskUptoRow.holds Tryd.pinned (OpenSpec.upto waterAskSpec)

/-- 'orloplaw12.WaterKnown', WHERE WHAT IT READS IS OF BULK AT MOST 1048576: true; the input reads as it did. -/
def waterKnownUptoRow : OpenClaim := { program := "ytnedncdhnggooaadoor", sum := "3e3973e22f0536bdd4a26af25f3caf1bc62f157c2188780a2c12c4203e424ada", func := "orlop/orloplaw12.WaterKnown", spec := "waterKnown", unfollowed := true, recurses := true, named := ["math/bits.deBruijn32tab", "math/bits.deBruijn64tab"], plainKeys := false, apart := false, laid := [("math/bits.deBruijn32tab", laid_math_bits_deBruijn32tab), ("math/bits.deBruijn64tab", laid_math_bits_deBruijn64tab)], narrowed := true }
def WaterKnownUptoSaid : Prop := waterKnownUptoRow.holds Tryd.pinned (OpenSpec.upto waterKnownSpec)

/-- 'orloplaw12.WaterTrue', WHERE WHAT IT READS IS OF BULK AT MOST 1048576: true; the input reads as it did. -/
def waterTrueUptoRow : OpenClaim := { program := "ytnedncdhnggooaadoor", sum := "3e3973e22f0536bdd4a26af25f3caf1bc62f157c2188780a2c12c4203e424ada", func := "orlop/orloplaw12.WaterTrue", spec := "waterTrue", unfollowed := true, recurses := true, named := ["math/bits.deBruijn32tab", "math/bits.deBruijn64tab"], plainKeys := false, apart := false, laid := [("math/bits.deBruijn32tab", laid_math_bits_deBruijn32tab), ("math/bits.deBruijn64tab", laid_math_bits_deBruijn64tab)], narrowed := true }
def WaterTrueUptoSaid : Prop := waterTrueUptoRow.holds Tryd.pinned (OpenSpec.upto waterTrueSpec)

/-- 'orloplaw12.WaterMust', WHERE WHAT IT READS IS OF BULK AT MOST 1048576: true; the input reads as it did. -/
def waterMustUptoRow : OpenClaim := { program := "ytnedncdhnggooaadoor", sum := "3e3973e22f0536bdd4a26af25f3caf1bc62f157c2188780a2c12c4203e424ada", func := "orlop/orloplaw12.WaterMust", spec := "waterMust", unfollowed := true, recurses := true, named := ["math/bits.deBruijn32tab", "math/bits.deBruijn64tab"], plainKeys := false, apart := false, laid := [("math/bits.deBruijn32tab", laid_math_bits_deBruijn32tab), ("math/bits.deBruijn64tab", laid_math_bits_deBruijn64tab)], narrowed := true }
def WaterMustUptoSaid : Prop := waterMustUptoRow.holds Tryd.pinned (OpenSpec.upto waterMustSpec)

/-- 'orloplaw12.WaterFewest', WHERE WHAT IT READS IS OF BULK AT MOST 1048576: true; the input reads as it did. -/
def waterFewestUptoRow : OpenClaim := { program := "ytnedncdhnggooaadoor", sum := "3e3973e22f0536bdd4a26af25f3caf1bc62f157c2188780a2c12c4203e424ada", func := "orlop/orloplaw12.WaterFewest", spec := "waterFewest", unfollowed := true, recurses := true, named := ["math/bits.deBruijn32tab", "math/bits.deBruijn64tab"], plainKeys := false, apart := false, laid := [("math/bits.deBruijn32tab", laid_math_bits_deBruijn32tab), ("math/bits.deBruijn64tab", laid_math_bits_deBruijn64tab)], narrowed := true }
def WaterFewestUptoSaid : Prop := waterFewestUptoRow.holds Tryd.pinned (OpenSpec.upto waterFewestSpec)

/-- 'orloplaw12.WaterMore', WHERE WHAT IT READS IS OF BULK AT MOST 1048576: true; the input reads as it did. -/
def waterMoreUptoRow : OpenClaim := { program := "ytnedncdhnggooaadoor", sum := "3e3973e22f0536bdd4a26af25f3caf1bc62f157c2188780a2c12c4203e424ada", func := "orlop/orloplaw12.WaterMore", spec := "waterMore", unfollowed := true, recurses := true, named := ["math/bits.deBruijn32tab", "math/bits.deBruijn64tab"], plainKeys := false, apart := false, laid := [("math/bits.deBruijn32tab", laid_math_bits_deBruijn32tab), ("math/bits.deBruijn64tab", laid_math_bits_deBruijn64tab)], narrowed := true }
def WaterMoreUptoSaid : Prop := waterMoreUptoRow.holds Tryd.pinned (OpenSpec.upto waterMoreSpec)

/-- 'orloplaw12.WaterAsked', WHERE WHAT IT READS IS OF BULK AT MOST 1048576: true; the input reads as it did. -/
def waterAskedUptoRow : OpenClaim := { program := "ytnedncdhnggooaadoor", sum := "3e3973e22f0536bdd4a26af25f3caf1bc62f157c2188780a2c12c4203e424ada", func := "orlop/orloplaw12.WaterAsked", spec := "waterAsked", unfollowed := true, recurses := true, named := ["math/bits.deBruijn32tab", "math/bits.deBruijn64tab"], plainKeys := false, apart := false, laid := [("math/bits.deBruijn32tab", laid_math_bits_deBruijn32tab), ("math/bits.deBruijn64tab", laid_math_bits_deBruijn64tab)], narrowed := true }
def WaterAskedUptoSaid : Prop := waterAskedUptoRow.holds Tryd.pinned (OpenSpec.upto waterAskedSpec)

/-- 'orloplaw12.WaterOrder', WHERE WHAT IT READS IS OF BULK AT MOST 1048576: true; the input reads as it did. -/
def waterOrderUptoRow : OpenClaim := { program := "ytnedncdhnggooaadoor", sum := "3e3973e22f0536bdd4a26af25f3caf1bc62f157c2188780a2c12c4203e424ada", func := "orlop/orloplaw12.WaterOrder", spec := "waterOrder", unfollowed := true, recurses := true, named := ["math/bits.deBruijn32tab", "math/bits.deBruijn64tab"], plainKeys := false, apart := false, laid := [("math/bits.deBruijn32tab", laid_math_bits_deBruijn32tab), ("math/bits.deBruijn64tab", laid_math_bits_deBruijn64tab)], narrowed := true }
def WaterOrderUptoSaid : Prop := waterOrderUptoRow.holds Tryd.pinned (OpenSpec.upto waterOrderSpec)

/-- 'orloplaw12.WaterTurned', WHERE WHAT IT READS IS OF BULK AT MOST 1048576: true; the input reads as it did. -/
def waterTurnedUptoRow : OpenClaim := { program := "ytnedncdhnggooaadoor", sum := "3e3973e22f0536bdd4a26af25f3caf1bc62f157c2188780a2c12c4203e424ada", func := "orlop/orloplaw12.WaterTurned", spec := "waterTurned", unfollowed := true, recurses := true, named := ["math/bits.deBruijn32tab", "math/bits.deBruijn64tab"], plainKeys := false, apart := false, laid := [("math/bits.deBruijn32tab", laid_math_bits_deBruijn32tab), ("math/bits.deBruijn64tab", laid_math_bits_deBruijn64tab)], narrowed := true }
def WaterTurnedUptoSaid : Prop := waterTurnedUptoRow.holds Tryd.pinned (OpenSpec.upto waterTurnedSpec)

/-- 'orloplaw12.WaterWider', WHERE WHAT IT READS IS OF BULK AT MOST 1048576: true; the input reads as it did. -/
def waterWiderUptoRow : OpenClaim := { program := "ytnedncdhnggooaadoor", sum := "3e3973e22f0536bdd4a26af25f3caf1bc62f157c2188780a2c12c4203e424ada", func := "orlop/orloplaw12.WaterWider", spec := "waterWider", unfollowed := true, recurses := true, named := ["math/bits.deBruijn32tab", "math/bits.deBruijn64tab"], plainKeys := false, apart := false, laid := [("math/bits.deBruijn32tab", laid_math_bits_deBruijn32tab), ("math/bits.deBruijn64tab", laid_math_bits_deBruijn64tab)], narrowed := true }
def WaterWiderUptoSaid : Prop := waterWiderUptoRow.holds Tryd.pinned (OpenSpec.upto waterWiderSpec)

end Rows
end Go.Proofs.YtnedncdhnggooaaDoor
