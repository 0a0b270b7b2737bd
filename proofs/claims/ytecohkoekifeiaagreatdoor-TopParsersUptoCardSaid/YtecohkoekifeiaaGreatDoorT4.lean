/-
  Closed facts of the tie. No condition.
-/
import Derived.Test.YtecohkoekifeiaaGreatDoorT1
namespace Go.Proofs.YtecohkoekifeiaaGreatDoor.tied
open Go
set_option linter.all false
theorem hd : ∀ os tape, varsDone Tryz.prog 400 (varsId Tryz.prog) os tape = true := fun _ _ => by kernel_rfl
end Go.Proofs.YtecohkoekifeiaaGreatDoor.tied
