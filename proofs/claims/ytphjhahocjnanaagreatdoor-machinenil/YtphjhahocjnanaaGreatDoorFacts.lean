/- The closed facts of the row: conditions: none. -/
import Derived.Test.YtphjhahocjnanaaGreatDoorRows
import Derived.JoinedOf
import Derived.KernelRfl
set_option linter.all false
set_option maxRecDepth 100000
set_option maxHeartbeats 0
namespace Go.Proofs.YtphjhahocjnanaaGreatDoor
open Go
theorem facts : joinedFacts Tryz.prog 3 Tryz.f3 Rows.machineNilSpec Rows.machineNilRow = true := by
  unfold joinedFacts
  simp only [Bool.and_eq_true]
  repeat' (refine And.intro ?_ ?_)
  all_goals as_aux_lemma => kernel_rfl
#print axioms facts
end Go.Proofs.YtphjhahocjnanaaGreatDoor
