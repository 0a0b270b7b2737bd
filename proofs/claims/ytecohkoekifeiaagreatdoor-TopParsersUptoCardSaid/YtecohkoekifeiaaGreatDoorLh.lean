/-
  Legs of the run, each reckoned by the kernel. No condition.
-/
import Derived.Test.YtecohkoekifeiaaGreatDoorKs
set_option linter.all false
namespace Go.Ev
open Go Go.Proofs
set_option maxRecDepth 1000000
theorem q1leg1 : (adv KC 1000000 304 Q1S0).map (normS [1, 33, 66, 96, 129, 159, 198, 199, 271, 305, 314, 315, 317, 318, 319, 320, 321, 322, 323, 324, 325, 326, 327, 329]) = some Q1S1 := by kernel_rfl
theorem leg4 : (adv KC1 1000000 1500 S3).map (normS [1, 33, 66, 96, 129, 159, 198, 199, 230, 231, 232, 234, 235, 236, 237, 238, 243]) = some S4 := by kernel_rfl
theorem leg12 : (adv KC1 1000000 1500 S11).map (normS [1, 33, 66, 96, 129, 159, 198, 199, 271, 305, 314, 317, 318, 321, 322, 323, 324, 325, 327, 338, 339, 401, 402, 403, 429, 448, 457, 459, 464, 468, 469, 470, 472, 487, 488, 489, 506, 507, 591, 592, 593, 594]) = some S12 := by kernel_rfl
theorem leg13 : (adv KC1 1000000 1500 S12).map (normS [1, 33, 66, 96, 129, 159, 198, 199, 271, 305, 314, 317, 318, 321, 322, 323, 324, 325, 327, 338, 339, 401, 402, 403, 429, 448, 457, 459, 464, 468, 469, 470, 472, 487, 488, 489, 506, 507, 628, 629, 630, 631]) = some S13 := by kernel_rfl
end Go.Ev
