/-
  Closed facts of the tie. No condition.
-/
import Derived.Test.YtecohkoekifeiaaGreatDoorT1
namespace Go.Proofs.YtecohkoekifeiaaGreatDoor.tied
open Go
set_option linter.all false
theorem hroot : Tryz.prog.worded rootWordLater = true := by kernel_rfl
theorem hg : (Tryz.prog.funcNamed "gosem.cut.vars").isSome = true := by kernel_rfl
end Go.Proofs.YtecohkoekifeiaaGreatDoor.tied
