/-
  The law's examples, evaluated.
-/
import Derived.Test.YtiabhghlhnnnjaaGreatDoorAu
import Derived.KernelRfl
set_option maxRecDepth 100000
noncomputable section
namespace Go.Proofs.YtiabhghlhnnnjaaGreatDoor.Ev
open Go Sh Sl
theorem awake_runs : isT (main pgA 100000 5 none0) = true := by kernel_rfl
end Go.Proofs.YtiabhghlhnnnjaaGreatDoor.Ev
