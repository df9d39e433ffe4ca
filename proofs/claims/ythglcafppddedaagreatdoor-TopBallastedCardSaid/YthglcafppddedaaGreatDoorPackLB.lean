/- What ballasted_holds leans on, part LB. No condition. -/
import Derived.Test.YthglcafppddedaaGreatDoorPackLA

set_option linter.all false
namespace Go.Proofs.Ball
open Go.V Go.Proofs Go.Proofs.YthglcafppddedaaGreatDoor
set_option maxRecDepth 100000
set_option maxHeartbeats 0
theorem FJ:joinedFacts Tryz.pinned.checked.prog 3 Tryz.f3 (OpenSpec.ofChange Rows.topBallastedSpec).bare Rows.topBallastedRow=true:=by
 unfold joinedFacts;simp only[Bool.and_eq_true]
 repeat' refine And.intro ?_ ?_
 all_goals as_aux_lemma=>kernel_rfl
end Go.Proofs.Ball
