/-
  Legs of the run, each reckoned by the kernel. No condition.
-/
import Derived.Test.YtecohkoekifeiaaGreatDoorKs
set_option linter.all false
namespace Go.Ev
open Go Go.Proofs
set_option maxRecDepth 1000000
theorem leg1 : (adv KC1 1000000 1500 S0).map (normS [1, 13, 14, 15, 23, 24, 25]) = some S1 := by kernel_rfl
theorem leg8 : (adv KC1 1000000 1500 S7).map (normS [1, 33, 66, 96, 129, 159, 198, 199, 271, 305, 314, 317, 318, 321, 322, 323, 324, 325, 327, 338, 339, 401, 402, 403, 429, 448, 457, 459, 464, 468, 469, 470, 472, 473, 474, 484, 485]) = some S8 := by kernel_rfl
theorem leg16 : (adv KC1 1000000 500 S15).map (normS [1, 33, 66, 96, 129, 159, 198, 199, 271, 305, 314, 317, 318, 321, 322, 323, 324, 325, 327, 338, 339, 401, 402, 403, 429, 448, 457, 459, 464, 468, 469, 470, 472, 487, 488, 489, 506, 507, 687, 688, 689, 690]) = some S16 := by kernel_rfl
end Go.Ev
