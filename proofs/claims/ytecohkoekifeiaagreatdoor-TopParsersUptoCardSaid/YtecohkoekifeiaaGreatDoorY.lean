/-
  A closed fact of the card: no function of the program starts a goroutine. No condition.
-/
import Derived.Test.YtecohkoekifeiaaGreatDoorRows
import Derived.SevenTiedAt
import Derived.KernelRfl
namespace Go.Proofs.YtecohkoekifeiaaGreatDoor.tied
open Go
set_option linter.all false
theorem noGoes : Tryz.prog.funcs.any Func.goes = false := by kernel_rfl
end Go.Proofs.YtecohkoekifeiaaGreatDoor.tied
