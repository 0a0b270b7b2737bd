/-
  Legs of the run, each reckoned by the kernel. No condition.
-/
import Derived.Test.YtecohkoekifeiaaGreatDoorKs
set_option linter.all false
namespace Go.Ev
open Go Go.Proofs
set_option maxRecDepth 1000000
theorem q1leg3 : (adv KC 1000000 330 Q1S2).map (normS [1, 33, 66, 96, 129, 159, 198, 199, 271, 305, 314, 315, 317, 318, 319, 321, 322, 323, 324, 325, 327, 338, 339, 401, 402, 403, 429, 448, 457, 459, 464, 468, 469, 470, 472]) = some Q1S3 := by kernel_rfl
theorem leg11 : (adv KC1 1000000 1500 S10).map (normS [1, 33, 66, 96, 129, 159, 198, 199, 271, 305, 314, 317, 318, 321, 322, 323, 324, 325, 327, 338, 339, 401, 402, 403, 429, 448, 457, 459, 464, 468, 469, 470, 472, 487, 488, 489, 506, 507, 567, 568, 569, 570]) = some S11 := by kernel_rfl
theorem leg14 : (adv KC1 1000000 1500 S13).map (normS [1, 33, 66, 96, 129, 159, 198, 199, 271, 305, 314, 317, 318, 321, 322, 323, 324, 325, 327, 338, 339, 401, 402, 403, 429, 448, 457, 459, 464, 468, 469, 470, 472, 487, 488, 489, 506, 507]) = some S14 := by kernel_rfl
theorem leg15 : (adv KC1 1000000 1500 S14).map (normS [1, 33, 66, 96, 129, 159, 198, 199, 271, 305, 314, 317, 318, 321, 322, 323, 324, 325, 327, 338, 339, 401, 402, 403, 429, 448, 457, 459, 464, 468, 469, 470, 472, 487, 488, 489, 506, 507, 680, 681, 682, 683]) = some S15 := by kernel_rfl
end Go.Ev
