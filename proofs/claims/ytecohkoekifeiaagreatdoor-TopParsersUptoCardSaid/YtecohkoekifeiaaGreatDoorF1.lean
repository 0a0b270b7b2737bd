/-
  Closed facts of the row: the types are laid out, the first half. No condition.
-/
import Derived.Test.YtecohkoekifeiaaGreatDoorRows
import Derived.JoinedOf
import Derived.JoinedCond
import Derived.KernelRfl
namespace Go.Proofs.YtecohkoekifeiaaGreatDoor.facts
open Go
set_option linter.all false
theorem a1 : (((List.range 612).take 306).all (rowFine Tryz.prog)) = true := by kernel_rfl
end Go.Proofs.YtecohkoekifeiaaGreatDoor.facts
