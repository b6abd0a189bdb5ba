/-
  AuditKnown, evaluated; of its examples it is told.
-/
import Derived.Test.YtmdnoijadadjpaaGreatDoorAu
import Derived.KernelRfl
set_option maxRecDepth 100000
noncomputable section
namespace Go.Proofs.YtmdnoijadadjpaaGreatDoor.Ev
open Go Sh Sl
noncomputable def xtW : Xt := fun n => match n with
  | 4 => some xTrue
  | n => xt n
noncomputable def pgW : Pg := ⟨fun _ => none, ftab, xtW⟩
theorem auditKnown_runs : isT (main pgW 100000 3 none0) = true := by kernel_rfl
end Go.Proofs.YtmdnoijadadjpaaGreatDoor.Ev
