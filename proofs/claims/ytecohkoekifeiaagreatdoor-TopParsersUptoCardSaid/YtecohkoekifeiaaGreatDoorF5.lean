/-
  Closed facts of the row: the types are laid out. No condition.
-/
import Derived.Test.YtecohkoekifeiaaGreatDoorF1
namespace Go.Proofs.YtecohkoekifeiaaGreatDoor.facts
open Go
set_option linter.all false
theorem a2 : (((List.range 612).drop 306).all (rowFine Tryz.prog)) = true := by kernel_rfl
theorem a3 : (Tryz.prog.types.size == 612) = true := by kernel_rfl
theorem a4 : (Tryz.prog.globals.all fun g => decide (g.type < Tryz.prog.types.size)) = true := by kernel_rfl
theorem a5 : (Tryz.prog.funcs.all fun f => f.params.all fun t => decide (t < Tryz.prog.types.size)) = true := by kernel_rfl
theorem k1 : (laidOutB Tryz.prog : Bool) = true := by
  unfold laidOutB
  rw [a4, a5, Bool.and_true, Bool.and_true, eq_of_beq a3, ← List.take_append_drop 306 (List.range 612), List.all_append, a1, a2]
  rfl
end Go.Proofs.YtecohkoekifeiaaGreatDoor.facts
