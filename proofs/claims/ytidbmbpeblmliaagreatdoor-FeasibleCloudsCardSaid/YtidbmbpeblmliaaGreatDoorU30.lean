/- Part of the proof of the statement that the claim's last text names: contracts of functions and laws of the symbolic layer. -/
import Derived.Test.YtidbmbpeblmliaaGreatDoorU29
import Derived.Test.YtidbmbpeblmliaaGreatDoorU14
set_option linter.unusedVariables false
set_option linter.unusedSimpArgs false
namespace Go.Proofs.YtidbmbpeblmliaaGreatDoor
open Go.Sym Go.RowKit
theorem and_t{a b:Bool}(h:a=true)(g:b=true):(a&&b)=true:=by rw [h,g];rfl
set_option maxRecDepth 100000 in
set_option maxHeartbeats 400000000 in
theorem closedP:joinedFacts Tryz.prog 9 Tryz.f9 Rows.feasibleCloudsSpec Rows.feasibleCloudsRow=true:=by
 unfold joinedFacts
 repeat' (with_reducible refine and_t ?_ ?_)
 all_goals (as_aux_lemma=>kernel_rfl)
end Go.Proofs.YtidbmbpeblmliaaGreatDoor
