/-
  Closed facts of the row. No condition.
-/
import Derived.Test.YtecohkoekifeiaaGreatDoorRows
import Derived.JoinedOf
import Derived.JoinedCond
import Derived.KernelRfl
namespace Go.Proofs.YtecohkoekifeiaaGreatDoor.facts
open Go
set_option linter.all false
theorem k2 : (mapsRowed Tryz.prog : Bool) = true := by kernel_rfl
theorem k24 : (Tryz.prog.stopsHeard : Bool) = true := by kernel_rfl
end Go.Proofs.YtecohkoekifeiaaGreatDoor.facts
