/-
  Closed facts of the row: how far the walk over the calls may go. No condition.
-/
import Derived.Test.YtecohkoekifeiaaGreatDoorRows
import Derived.JoinedOf
import Derived.JoinedCond
import Derived.KernelRfl
namespace Go.Proofs.YtecohkoekifeiaaGreatDoor.facts
open Go
set_option linter.all false
theorem fuel : 1 + (Tryz.prog.funcs.toList.map fun g => (Tryz.prog.leadsTo g).length + 1).sum = 1820 := by kernel_rfl
end Go.Proofs.YtecohkoekifeiaaGreatDoor.facts
