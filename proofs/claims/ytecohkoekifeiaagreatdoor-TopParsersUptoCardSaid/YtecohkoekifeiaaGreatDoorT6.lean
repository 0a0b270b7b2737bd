/-
  Closed facts of the tie. No condition.
-/
import Derived.Test.YtecohkoekifeiaaGreatDoorT1
namespace Go.Proofs.YtecohkoekifeiaaGreatDoor.tied
open Go
set_option linter.all false
theorem h2 : ∀ os tape, (DataW.laidRun Tryz.prog (varsWorld Tryz.prog 400 (varsId Tryz.prog) os tape).memory 8 (laid6.map (·.1))).map (fun x => decide x.2.Nodup && laidRowsB Tryz.prog (varsWorld Tryz.prog 400 (varsId Tryz.prog) os tape).memory x.2) = some true := fun _ _ => by kernel_rfl
end Go.Proofs.YtecohkoekifeiaaGreatDoor.tied
