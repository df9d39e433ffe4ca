/- What a row's list gives: the table of the library; a world for the witness. No condition. -/
import Derived.Test.YtnedncdhnggooaaDoorCards
import Derived.Test.YtnedncdhnggooaaDoorTie
import Derived.Stop.LaidErr
import Derived.Stop.Joined
import Derived.Test.YtnedncdhnggooaaDoorPackWE

namespace Go.Proofs.Water
open Go.V Go.Proofs Go.RowKit Go.ChangeShapes Go.WideShapes Go.ChangeAt
open Go.Proofs.YtnedncdhnggooaaDoor (Rows.waterCanRow Rows.laid_math_bits_deBruijn32tab Rows.laid_math_bits_deBruijn64tab)

abbrev laidL : List (String × DataW Unit) := Rows.waterCanRow.laid
theorem gTab : Tryd.prog.globalNamed "math/bits.deBruijn64tab" = some 1 := by kernel_rfl
theorem gTabType : (Tryd.prog.globals[1]?).map (·.type) = some 149 := by kernel_rfl
theorem cells149 : Tryd.prog.cellsOf 149 = 64 := by kernel_rfl

theorem table {W : World} (h : laidMetH Tryd.prog laidL W) : Lib.TabIs Tryd.prog W "math/bits.deBruijn64tab" .u8 tab64 := by
  have h' : laidMet Tryd.prog (("math/bits.deBruijn32tab", Rows.laid_math_bits_deBruijn32tab) :: ("math/bits.deBruijn64tab", Lib.tabData .u8 tab64) :: []) W := h
  exact Lib.tabIs_of_head (rest := []) gTab gTabType Tryd.underlying149 Tryd.underlying5 cells5 cells149 (laidMet.tail h')

theorem hgl (W : World) (h : laidMetH Tryd.prog laidL W) : glbI.le (allOf W) := by
  intro B off v hv
  unfold glbI at hv
  match B, hv with
  | 1, hv =>
    cases ht : tab64[off]? with
    | none => simp [Glb.tab, ht] at hv
    | some n =>
      simp [Glb.tab, ht] at hv
      subst hv
      have hlt := (List.getElem?_eq_some_iff.1 ht).1
      have h1 := (table h).cell gTab off hlt
      rw [List.getD_eq_getElem?_getD, ht] at h1
      have h1 : W.cell? ⟨1, off, none⟩ = some (.int .u8 n) := h1
      show cellM W 1 off = _
      unfold cellM
      cases hH : W.heap[1]? with
      | none => simp only [h1]; rfl
      | some o =>
        cases o with
        | map es c => unfold World.cell? at h1; rw [hH] at h1; cases h1
        | _ => simp only [h1]; rfl
  | 0, hv => simp [Glb.tab] at hv
  | n + 2, hv => simp [Glb.tab] at hv

def tab32 : List Int := [0, 1, 28, 2, 29, 14, 24, 3, 30, 22, 20, 15, 25, 17, 4, 8, 31, 27, 13, 23, 21, 19, 16, 7, 26, 12, 18, 6, 11, 5, 10, 9]
/-- A table's cells are laid. -/
noncomputable def layT (l : List Int) : Obj → Obj
  | .cells _ t frozen => .cells ((l.map fun n => Value.int .u8 n).toArray) t frozen
  | o => o
/-- A world for the witness: the tables hold what the program's text lays. -/
noncomputable def laidWorld (os : Os) (args : Array Value) : World :=
  { World.holding Tryd.prog os ⟨#[], args, []⟩ with heap := (((World.holding Tryd.prog os ⟨#[], args, []⟩).heap.modify 0 (layT tab32)).modify 1 (layT tab64)) }

end Go.Proofs.Water
