/- What ballasted_holds leans on, part UM. No condition. -/
import Derived.SizedLaws
import Derived.Test.YthglcafppddedaaGreatDoorPackUL

set_option linter.all false
namespace Go.V
open Go.RowKit Go.ChangeShapes
section
variable{H:Type}{enc:TypeId×Value->H}{P:Program}{w w':World}
end
end Go.V
