/-
  THE CARD: for every list of bytes of bulk at most 1048576 TopParsers returns true and leaves its argument as it was; what the listed variables hold is tied to the program's text. The condition on the bulk is the given statement's own.
-/
import Derived.Test.YtecohkoekifeiaaGreatDoorCards
import Derived.Test.YtecohkoekifeiaaGreatDoorXp
import Derived.Test.YtecohkoekifeiaaGreatDoorT7
import Derived.Test.YtecohkoekifeiaaGreatDoorY
import Derived.SevenTiedAt
namespace Go.Proofs.YtecohkoekifeiaaGreatDoor.topParsers
open Go
set_option linter.all false

/-- No parameter wants a stand-in: what the card asks. -/
theorem plain (f : FuncId) (fn : Func) (hf : Tryz.pinned.checked.prog.funcNamed "hustings/hustingstop.TopParsers" = some f) (hfn : Tryz.pinned.checked.prog.funcs[f]? = some fn) :
    true = Tryz.pinned.checked.prog.looks [] ∧ ∀ (j : Nat) t, fn.params[j]? = some t → Tryz.pinned.checked.prog.wantsStandIn t = false := by
  obtain rfl : f = 3 := Option.some.inj ((show Tryz.prog.funcNamed "hustings/hustingstop.TopParsers" = some 3 by kernel_rfl).symm.trans hf) |>.symm
  obtain rfl : fn = Tryz.f3 := (Option.some.inj (Tryz.func3.symm.trans hfn)).symm
  refine ⟨by kernel_rfl, fun j t ht => ?_⟩
  rw [Tryz.params3] at ht
  obtain rfl : t = 22 := by simpa using Array.mem_of_getElem? ht
  exact (show Tryz.prog.wantsStandIn 22 = false by kernel_rfl)

theorem goes_none {P : Program} (h : P.funcs.any Func.goes = false) (f : FuncId) : P.goes f = false := by
  unfold Program.goes
  rw [h, Bool.and_false, Bool.or_false, List.any_eq_false]
  intro g _
  cases hg : P.funcs[g]? with
  | none => simp
  | some fn =>
    rw [Array.any_eq_false] at h
    obtain ⟨hl, rfl⟩ := Array.getElem?_eq_some_iff.1 hg
    simpa using h g hl
theorem goes : false = Rows.topParsersUptoRow.goesBy Tryz.pinned.checked.prog := by
  show false = ((Tryz.prog.funcNamed Rows.topParsersUptoRow.func).any Tryz.prog.goes || false)
  rw [facts.named, Bool.or_false, Option.any_some]
  exact (goes_none tied.noGoes 3).symm
theorem wfT : Rows.topParsersUptoRow.wfByText (Rows.OpenSpec.upto Rows.topParsersSpec) = true := by kernel_rfl
theorem mainIs : Tryz.pinned.checked.prog.mainIs = some (true, "456ff1f1e5b5d676e3ccead398e004f3278fc3b1c07757867c9cc4748b719223".toList) := by kernel_rfl
theorem cardUpto : Rows.TopParsersUptoCardSaid :=
  Claim7.holds_tied_plain_at .later [] _ _ _ _ saidUpto (fun _ h => by cases h) wfT (fun _ h => by cases h) tied.topParsersUpto_row_tie rfl ⟨rfl, rfl⟩ mainIs rfl plain goes
#print axioms cardUpto
end Go.Proofs.YtecohkoekifeiaaGreatDoor.topParsers
