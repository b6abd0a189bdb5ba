/-
  THE ROWS' TIES, part three: how the text lays the variables: its run.
-/
import Derived.Test.YtiabhghlhnnnjaaGreatDoorTb
import Derived.LaidByTextLater
import Derived.SevenTiedAt
namespace Go.Proofs.YtiabhghlhnnnjaaGreatDoor
open Go
theorem tie7 (os : Os) (tape : Nat → Question → Nat) : varsDone Tryz.prog 400 (varsId Tryz.prog) os tape = true := by kernel_rfl
theorem tie8 (os : Os) (tape : Nat → Question → Nat) : (DataW.laidRun Tryz.prog (varsWorld Tryz.prog 400 (varsId Tryz.prog) os tape).memory 8 (tieList.map (·.1))).map (·.1) = some tieList := by kernel_rfl
theorem tie9 (os : Os) (tape : Nat → Question → Nat) : (DataW.laidRun Tryz.prog (varsWorld Tryz.prog 400 (varsId Tryz.prog) os tape).memory 8 (tieList.map (·.1))).map (fun x => decide x.2.Nodup && laidRowsB Tryz.prog (varsWorld Tryz.prog 400 (varsId Tryz.prog) os tape).memory x.2) = some true := by kernel_rfl
theorem tie : Tryz.prog.laidByTextLater tieList tieKinds true :=
  Program.laidByTextLater_by_run 400 8 tie1 tie2 tie3 tie4 tie5 tie6 tie7 tie8 tie9
end Go.Proofs.YtiabhghlhnnnjaaGreatDoor
