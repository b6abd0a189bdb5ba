/-
  THE ROW'S CLOSED FACTS, one by one.
-/
import Derived.Test.YtiabhghlhnnnjaaGreatDoorRows
import Derived.JoinedOf
import Derived.KernelRfl
set_option maxRecDepth 100000
set_option maxHeartbeats 0
namespace Go.Proofs.YtiabhghlhnnnjaaGreatDoor.auditNone
open Go
theorem facts : joinedFacts Tryz.prog 3 Tryz.f3 Rows.auditNoneSpec Rows.auditNoneRow = true := by
  unfold joinedFacts
  simp only [Bool.and_eq_true]
  repeat' apply And.intro
  all_goals as_aux_lemma => kernel_rfl
end Go.Proofs.YtiabhghlhnnnjaaGreatDoor.auditNone
