/- What ballasted_holds leans on, part LC. No condition. -/
import Derived.Test.YthglcafppddedaaGreatDoorPackRA
import Derived.Test.YthglcafppddedaaGreatDoorPackRB
import Derived.Test.YthglcafppddedaaGreatDoorPackRD
import Derived.Test.YthglcafppddedaaGreatDoorPackRF
import Derived.Test.YthglcafppddedaaGreatDoorPackTA

set_option linter.all false
namespace Go.Proofs.Ball
open Go.V Go.Proofs
theorem abD:DN 5 [] (.bool true):=by
 refine dX Tryz.func5 Tryz.call5 rfl rfl ?_;refine⟨_,rfl,_,R12.den,?_⟩;refine⟨λ_=>?_,λh=>absurd h (by decide)⟩;refine⟨_,rfl,_,R13.den,?_⟩;refine⟨λ_=>?_,λh=>absurd h (by decide)⟩;refine⟨_,rfl,_,R14.den,?_⟩;refine⟨λ_=>?_,λh=>absurd h (by decide)⟩;refine⟨_,rfl,_,R15.den,?_⟩;rfl
end Go.Proofs.Ball
