/-
  The row's closed facts, all of them. No condition.
-/
import Derived.Test.YtecohkoekifeiaaGreatDoorF4
import Derived.Test.YtecohkoekifeiaaGreatDoorF5
import Derived.Test.YtecohkoekifeiaaGreatDoorF6
import Derived.Test.YtecohkoekifeiaaGreatDoorF7
namespace Go.Proofs.YtecohkoekifeiaaGreatDoor.facts
open Go
set_option linter.all false
theorem k0 : (Rows.topParsersUptoRow.wf (OpenSpec.ofChange (Rows.OpenSpec.upto Rows.topParsersSpec).bare) : Bool) = true := by kernel_rfl
theorem k3 : (Tryz.f3.params.all (Tryz.prog.readableRec ·) : Bool) = true := by kernel_rfl
theorem k4 : (namedTie Tryz.prog Rows.topParsersUptoRow.named (Rows.OpenSpec.upto Rows.topParsersSpec).bare.vars : Bool) = true := by kernel_rfl
theorem k5 : ((Rows.topParsersUptoRow.stops == []) : Bool) = true := by kernel_rfl
theorem k6 : ((Tryz.prog.stops == []) : Bool) = true := by kernel_rfl
theorem k7 : ((Rows.topParsersUptoRow.knobs == []) : Bool) = true := by kernel_rfl
theorem k8 : ((Tryz.prog.stopKnobs == []) : Bool) = true := by kernel_rfl
theorem k13 : ((Rows.topParsersUptoRow.maps == (Tryz.f3.params.toList ++ (Rows.OpenSpec.upto Rows.topParsersSpec).bare.plain.varTypes Tryz.prog).any (Tryz.prog.mapsRec ·)) : Bool) = true := by kernel_rfl
theorem k14 : ((Rows.topParsersUptoRow.ifaces == (Tryz.f3.params.toList ++ (Rows.OpenSpec.upto Rows.topParsersSpec).bare.plain.varTypes Tryz.prog).any (Tryz.prog.ifacesRec ·)) : Bool) = true := by kernel_rfl
theorem k15 : ((Rows.topParsersUptoRow.mapsOut == Tryz.prog.mapsAmong Tryz.f3.resultTypes.toList) : Bool) = true := by kernel_rfl
theorem k16 : ((Rows.topParsersUptoRow.loops == (Tryz.f3.params.toList ++ (Rows.OpenSpec.upto Rows.topParsersSpec).bare.plain.varTypes Tryz.prog).any (Tryz.prog.loopsFrom ·)) : Bool) = true := by kernel_rfl
theorem k17 : ((Rows.topParsersUptoRow.wideKeys == (Tryz.f3.params.toList ++ (Rows.OpenSpec.upto Rows.topParsersSpec).bare.plain.varTypes Tryz.prog ++ Tryz.f3.resultTypes.toList).any (Tryz.prog.wideKeysFrom ·)) : Bool) = true := by kernel_rfl
theorem k18 : ((Rows.OpenSpec.upto Rows.topParsersSpec).bare.vars.all (Tryz.prog.varReadable ·) : Bool) = true := by kernel_rfl
theorem k19 : (Tryz.f3.resultTypes.all (fun t => Tryz.prog.readableRec t && decide (t < Tryz.prog.types.size)) : Bool) = true := by kernel_rfl
theorem k20 : ((Rows.topParsersUptoRow.ifacesOut == Tryz.f3.resultTypes.toList.any (Tryz.prog.ifacesRec ·)) : Bool) = true := by kernel_rfl
theorem k21 : ((Rows.topParsersUptoRow.loopsOut == Tryz.f3.resultTypes.toList.any (Tryz.prog.loopsFrom ·)) : Bool) = true := by kernel_rfl
theorem k23 : (Rows.topParsersUptoRow.shortTexts.isNone : Bool) = true := by kernel_rfl
theorem k26 : ((Rows.topParsersUptoRow.lifted == Tryz.prog.liftsFinal) : Bool) = true := by kernel_rfl
theorem k27 : ((Tryz.prog.make == some Rows.topParsersUptoRow.make) : Bool) = true := by kernel_rfl
theorem k28 : ((Rows.topParsersUptoRow.kinds == (if Rows.topParsersUptoRow.domain.isEmpty then [] else Tryz.f3.params.toList.map fun t => match Tryz.prog.underlying t with | some (.int k) => some k | _ => none)) : Bool) = true := by kernel_rfl
theorem k29 : ((Rows.topParsersUptoRow.pinned == Rows.topParsersUptoRow.pinnedBy) : Bool) = true := by kernel_rfl
theorem k30 : ((Rows.topParsersUptoRow.veiled == (Tryz.f3.params.toList ++ (Rows.OpenSpec.upto Rows.topParsersSpec).bare.plain.varTypes Tryz.prog ++ Tryz.f3.resultTypes.toList).any (Tryz.prog.veiledRec ·)) : Bool) = true := by kernel_rfl
theorem k31 : (Rows.topParsersUptoRow.veiledFits Tryz.prog Tryz.f3.params.toList (Tryz.f3.params.toList ++ (Rows.OpenSpec.upto Rows.topParsersSpec).bare.plain.varTypes Tryz.prog ++ Tryz.f3.resultTypes.toList) : Bool) = true := by kernel_rfl
theorem and_t {a b : Bool} (ha : a = true) (hb : b = true) : (a && b) = true := by rw [ha, hb]; rfl
set_option maxRecDepth 100000 in
theorem closed : joinedFacts Tryz.prog 3 Tryz.f3 (Rows.OpenSpec.upto Rows.topParsersSpec).bare Rows.topParsersUptoRow = true := by
  unfold joinedFacts
  exact and_t (and_t (and_t (and_t (and_t (and_t (and_t (and_t (and_t (and_t (and_t (and_t (and_t (and_t (and_t (and_t (and_t (and_t (and_t (and_t (and_t (and_t (and_t (and_t (and_t (and_t (and_t (and_t (and_t (and_t (and_t (k0) k1) k2) k3) k4) k5) k6) k7) k8) k9) k10) k11) k12) k13) k14) k15) k16) k17) k18) k19) k20) k21) k22) k23) k24) k25) k26) k27) k28) k29) k30) k31
theorem named : Tryz.prog.funcNamed Rows.topParsersUptoRow.func = some 3 := by kernel_rfl
theorem wrap : Tryz.f3.isWrapper Tryz.prog Rows.topParsersUptoRow.wrapper Rows.topParsersUptoRow.mainSum := by
  unfold Func.isWrapper
  first | (rw [if_pos (by decide +kernel)]; kernel_rfl) | (rw [if_neg (by decide +kernel)]; exact ⟨rfl, rfl⟩)
end Go.Proofs.YtecohkoekifeiaaGreatDoor.facts
