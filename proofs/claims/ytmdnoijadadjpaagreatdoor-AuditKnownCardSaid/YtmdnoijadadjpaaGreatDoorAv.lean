/-
  The law's examples, evaluated.
-/
import Derived.Test.YtmdnoijadadjpaaGreatDoorAu
import Derived.KernelRfl
set_option maxRecDepth 100000
noncomputable section
namespace Go.Proofs.YtmdnoijadadjpaaGreatDoor.Ev
open Go Sh Sl
theorem awake_runs : isT (main pgA 100000 4 none0) = true := by kernel_rfl
end Go.Proofs.YtmdnoijadadjpaaGreatDoor.Ev
