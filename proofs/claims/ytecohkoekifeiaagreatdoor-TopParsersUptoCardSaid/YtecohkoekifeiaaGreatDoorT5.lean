/-
  Closed facts of the tie. No condition.
-/
import Derived.Test.YtecohkoekifeiaaGreatDoorT1
namespace Go.Proofs.YtecohkoekifeiaaGreatDoor.tied
open Go
set_option linter.all false
theorem h1 : ∀ os tape, (DataW.laidRun Tryz.prog (varsWorld Tryz.prog 400 (varsId Tryz.prog) os tape).memory 8 (laid6.map (·.1))).map (·.1) = some laid6 := fun _ _ => by kernel_rfl
end Go.Proofs.YtecohkoekifeiaaGreatDoor.tied
