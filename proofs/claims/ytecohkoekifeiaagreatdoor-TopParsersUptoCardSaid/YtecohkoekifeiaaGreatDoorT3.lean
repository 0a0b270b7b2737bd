/-
  Closed facts of the tie. No condition.
-/
import Derived.Test.YtecohkoekifeiaaGreatDoorT1
namespace Go.Proofs.YtecohkoekifeiaaGreatDoor.tied
open Go
set_option linter.all false
theorem hn : varsNamedLaterB Tryz.prog (varsId Tryz.prog) laid6 = true := by kernel_rfl
end Go.Proofs.YtecohkoekifeiaaGreatDoor.tied
