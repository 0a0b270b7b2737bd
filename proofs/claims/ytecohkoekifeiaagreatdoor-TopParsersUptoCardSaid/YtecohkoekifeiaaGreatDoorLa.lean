/-
  Legs of the run, each reckoned by the kernel. No condition.
-/
import Derived.Test.YtecohkoekifeiaaGreatDoorKs
set_option linter.all false
namespace Go.Ev
open Go Go.Proofs
set_option maxRecDepth 1000000
theorem q1leg2 : (adv KC 1000000 1 Q1S1).map (normS [1, 33, 66, 96, 129, 159, 198, 199, 271, 305, 314, 315, 317, 318, 319, 320, 321, 322, 323, 324, 325, 326, 327, 329, 338, 339, 401, 402, 403, 429, 448, 457, 459, 464]) = some Q1S2 := by kernel_rfl
theorem q6leg2 : (adv KC 1000000 1 Q6S1).map (normS [1, 33, 66, 96, 129, 159, 198, 199, 271, 305, 317, 318, 321, 322, 324, 325, 327, 338, 339, 401, 402, 403, 429, 448, 457, 459, 464, 468, 469, 470, 472, 732, 752, 753, 903, 911, 979, 983, 1341, 1358, 1370, 1372, 1373, 1377, 1378, 1379, 1396, 1397, 1413, 1416, 1651, 1654, 1656, 1681, 1719, 1793, 1794, 1795, 1796, 1797, 1798]) = some Q6S2 := by kernel_rfl
end Go.Ev
