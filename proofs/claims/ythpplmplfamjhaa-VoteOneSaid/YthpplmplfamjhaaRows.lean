/-
  No cell of these rows narrows 'for every input' (looked for: loops, veiled, ifaces, maps, wideKeys, modest, calm, conditions, laid).
  DERIVED. THE GIVEN ROWS OF THIS SEAT. 6 by the template 'for every input the law returns true; each argument reads behind the call as it read before'; 0 by the template 'total and deterministic' (their statements: YthpplmplfamjhaaTotals.lean).
  GIVEN WITH THE SEED: the statements are not yours to turn. If you find one false, say at which input.
  Laid BY PROGRAM, IN A SANDBOX (cutbox-rows.mjs): the forced cells as the released guide's own fill.sh prints them over the translation e9b1d950b878701d… (all of the seat's roots in one cut). By AI agents, Wed Nov 11 2026. No macro, syntax, notation, axiom, sorry.
-/
import Derived.Test.YthpplmplfamjhaaChecked
import GoSem.Claim
import GoSem.ClaimJoined
import GoSem.ClaimMapViews
import Derived.JoinedTies
import Derived.KernelRfl
namespace Go.Proofs.Ythpplmplfamjhaa
/- THE CELL 'sum', in the pinned program and in every row, IS THE sha256 OF THE DUMP (.gsa) THAT YthpplmplfamjhaaProg.lean LOADS. Nothing in Lean hashes anything: it is a label: what it is worth is what the hold of that sum in a sandbox is worth. -/
noncomputable def Try.pinned : Pinned := { name := "ythpplmplfamjhaa", sum := "e9b1d950b878701d606b5753fc4ac469487d59701c0afbc6d373d7bea5f1ae65", checked := Try.checked }
namespace Rows
def none {H : Type} : Left H := { results := [], args := [] }

/-- 'hustingslaw10.VoteAnswers': WHATEVER THE INPUT: true; the input reads as it did. -/
def voteAnswersSpec : ChangeSpec := { name := "voteAnswers", fn := fun _ => fun
  | [d1, d2] => { results := [.lit (.bool true)], args := [d1, d2] }
  | _ => none }
def voteAnswersRow : OpenClaim := { program := "ythpplmplfamjhaa", sum := "e9b1d950b878701d606b5753fc4ac469487d59701c0afbc6d373d7bea5f1ae65", func := "hustings/hustingslaw10.VoteAnswers", spec := "voteAnswers", apart := false }
def VoteAnswersSaid : Prop := voteAnswersRow.holds Try.pinned (OpenSpec.ofChange voteAnswersSpec)

/-- ITS FALSE NEIGHBOUR: 'it returns false'. Refute it at one input. -/
def voteAnswersWrong : ChangeSpec := { name := "voteAnswers", fn := fun _ => fun
  | [d1, d2] => { results := [.lit (.bool false)], args := [d1, d2] }
  | _ => none }
def VoteAnswersWrongFalsely : Prop := voteAnswersRow.holds Try.pinned (OpenSpec.ofChange voteAnswersWrong)

/-- 'hustingslaw10.VoteCounts': WHATEVER THE INPUT: true; the input reads as it did. -/
def voteCountsSpec : ChangeSpec := { name := "voteCounts", fn := fun _ => fun
  | [d1, d2] => { results := [.lit (.bool true)], args := [d1, d2] }
  | _ => none }
def voteCountsRow : OpenClaim := { program := "ythpplmplfamjhaa", sum := "e9b1d950b878701d606b5753fc4ac469487d59701c0afbc6d373d7bea5f1ae65", func := "hustings/hustingslaw10.VoteCounts", spec := "voteCounts", apart := false }
def VoteCountsSaid : Prop := voteCountsRow.holds Try.pinned (OpenSpec.ofChange voteCountsSpec)

/-- ITS FALSE NEIGHBOUR: 'it returns false'. Refute it at one input. -/
def voteCountsWrong : ChangeSpec := { name := "voteCounts", fn := fun _ => fun
  | [d1, d2] => { results := [.lit (.bool false)], args := [d1, d2] }
  | _ => none }
def VoteCountsWrongFalsely : Prop := voteCountsRow.holds Try.pinned (OpenSpec.ofChange voteCountsWrong)

/-- 'hustingslaw10.VoteOne': WHATEVER THE INPUT: true; the input reads as it did. -/
def voteOneSpec : ChangeSpec := { name := "voteOne", fn := fun _ => fun
  | [d1, d2, d3] => { results := [.lit (.bool true)], args := [d1, d2, d3] }
  | _ => none }
def voteOneRow : OpenClaim := { program := "ythpplmplfamjhaa", sum := "e9b1d950b878701d606b5753fc4ac469487d59701c0afbc6d373d7bea5f1ae65", func := "hustings/hustingslaw10.VoteOne", spec := "voteOne", apart := false }
def VoteOneSaid : Prop := voteOneRow.holds Try.pinned (OpenSpec.ofChange voteOneSpec)

/-- ITS FALSE NEIGHBOUR: 'it returns false'. Refute it at one input. -/
def voteOneWrong : ChangeSpec := { name := "voteOne", fn := fun _ => fun
  | [d1, d2, d3] => { results := [.lit (.bool false)], args := [d1, d2, d3] }
  | _ => none }
def VoteOneWrongFalsely : Prop := voteOneRow.holds Try.pinned (OpenSpec.ofChange voteOneWrong)

/-- 'hustingslaw10.VoteMeet': WHATEVER THE INPUT: true; the input reads as it did. -/
def voteMeetSpec : ChangeSpec := { name := "voteMeet", fn := fun _ => fun
  | [d1, d2, d3] => { results := [.lit (.bool true)], args := [d1, d2, d3] }
  | _ => none }
def voteMeetRow : OpenClaim := { program := "ythpplmplfamjhaa", sum := "e9b1d950b878701d606b5753fc4ac469487d59701c0afbc6d373d7bea5f1ae65", func := "hustings/hustingslaw10.VoteMeet", spec := "voteMeet", apart := false }
def VoteMeetSaid : Prop := voteMeetRow.holds Try.pinned (OpenSpec.ofChange voteMeetSpec)

/-- ITS FALSE NEIGHBOUR: 'it returns false'. Refute it at one input. -/
def voteMeetWrong : ChangeSpec := { name := "voteMeet", fn := fun _ => fun
  | [d1, d2, d3] => { results := [.lit (.bool false)], args := [d1, d2, d3] }
  | _ => none }
def VoteMeetWrongFalsely : Prop := voteMeetRow.holds Try.pinned (OpenSpec.ofChange voteMeetWrong)

/-- 'hustingslaw10.VoteOrder': WHATEVER THE INPUT: true; the input reads as it did. -/
def voteOrderSpec : ChangeSpec := { name := "voteOrder", fn := fun _ => fun
  | [d1, d2, d3] => { results := [.lit (.bool true)], args := [d1, d2, d3] }
  | _ => none }
def voteOrderRow : OpenClaim := { program := "ythpplmplfamjhaa", sum := "e9b1d950b878701d606b5753fc4ac469487d59701c0afbc6d373d7bea5f1ae65", func := "hustings/hustingslaw10.VoteOrder", spec := "voteOrder", apart := false }
def VoteOrderSaid : Prop := voteOrderRow.holds Try.pinned (OpenSpec.ofChange voteOrderSpec)

/-- ITS FALSE NEIGHBOUR: 'it returns false'. Refute it at one input. -/
def voteOrderWrong : ChangeSpec := { name := "voteOrder", fn := fun _ => fun
  | [d1, d2, d3] => { results := [.lit (.bool false)], args := [d1, d2, d3] }
  | _ => none }
def VoteOrderWrongFalsely : Prop := voteOrderRow.holds Try.pinned (OpenSpec.ofChange voteOrderWrong)

/-- 'hustingslaw10.VoteMore': WHATEVER THE INPUT: true; the input reads as it did. -/
def voteMoreSpec : ChangeSpec := { name := "voteMore", fn := fun _ => fun
  | [d1, d2, d3] => { results := [.lit (.bool true)], args := [d1, d2, d3] }
  | _ => none }
def voteMoreRow : OpenClaim := { program := "ythpplmplfamjhaa", sum := "e9b1d950b878701d606b5753fc4ac469487d59701c0afbc6d373d7bea5f1ae65", func := "hustings/hustingslaw10.VoteMore", spec := "voteMore", apart := false }
def VoteMoreSaid : Prop := voteMoreRow.holds Try.pinned (OpenSpec.ofChange voteMoreSpec)

/-- ITS FALSE NEIGHBOUR: 'it returns false'. Refute it at one input. -/
def voteMoreWrong : ChangeSpec := { name := "voteMore", fn := fun _ => fun
  | [d1, d2, d3] => { results := [.lit (.bool false)], args := [d1, d2, d3] }
  | _ => none }
def VoteMoreWrongFalsely : Prop := voteMoreRow.holds Try.pinned (OpenSpec.ofChange voteMoreWrong)

/- THE SECOND FORM. 'bulk': how many values and letters a reading holds, each counted each time it is reached (what is shared counts as often as it is met; a slice's spare places count too). A statement '..UptoSaid' is the law's where the arguments, and the package variables that the reading takes, are together of bulk at most 1048576: NARROWER than '..Said'. Prove '..Said' where nothing that the law and all that it calls make is longer than what came in: it says more and counts as full. Else prove '..UptoSaid'. A law counts once. -/
mutual
def uptoBulk {H : Type} : DataW H → Nat
  | .lit (.string bytes) => bytes.length + 1
  | .lit _ => 1
  | .nil => 1
  | .ptr d => uptoBulk d + 1
  | .slice elems spare => uptoBulkAll elems + uptoBulkAll spare + 1
  | .agg parts => uptoBulkAll parts + 1
  | .iface _ d => uptoBulk d + 1
  | .map entries => uptoBulkEntries entries + 1
  | .held _ => 1
def uptoBulkAll {H : Type} : List (DataW H) → Nat
  | [] => 0
  | d :: r => uptoBulk d + uptoBulkAll r
def uptoBulkEntries {H : Type} : List (Lit × DataW H) → Nat
  | [] => 0
  | x :: r => uptoBulkEntry x + uptoBulkEntries r
def uptoBulkEntry {H : Type} : Lit × DataW H → Nat
  | (.string bytes, d) => bytes.length + uptoBulk d + 1
  | (_, d) => uptoBulk d + 1
 end
def uptoSmall : (H : Type) → List (DataW H) → Bool := fun _ ds => decide (uptoBulkAll ds ≤ 1048576)
def OpenSpec.upto (s : _root_.Go.ChangeSpec) : _root_.Go.OpenSpec := { _root_.Go.OpenSpec.ofChange s with cond := some uptoSmall }

/-- 'hustingslaw10.VoteAnswers', WHERE WHAT IT READS IS OF BULK AT MOST 1048576: true; the input reads as it did. -/
def voteAnswersUptoRow : OpenClaim := { program := "ythpplmplfamjhaa", sum := "e9b1d950b878701d606b5753fc4ac469487d59701c0afbc6d373d7bea5f1ae65", func := "hustings/hustingslaw10.VoteAnswers", spec := "voteAnswers", apart := false, narrowed := true }
def VoteAnswersUptoSaid : Prop := voteAnswersUptoRow.holds Try.pinned (OpenSpec.upto voteAnswersSpec)

/-- 'hustingslaw10.VoteCounts', WHERE WHAT IT READS IS OF BULK AT MOST 1048576: true; the input reads as it did. -/
def voteCountsUptoRow : OpenClaim := { program := "ythpplmplfamjhaa", sum := "e9b1d950b878701d606b5753fc4ac469487d59701c0afbc6d373d7bea5f1ae65", func := "hustings/hustingslaw10.VoteCounts", spec := "voteCounts", apart := false, narrowed := true }
def VoteCountsUptoSaid : Prop := voteCountsUptoRow.holds Try.pinned (OpenSpec.upto voteCountsSpec)

/-- 'hustingslaw10.VoteOne', WHERE WHAT IT READS IS OF BULK AT MOST 1048576: true; the input reads as it did. -/
def voteOneUptoRow : OpenClaim := { program := "ythpplmplfamjhaa", sum := "e9b1d950b878701d606b5753fc4ac469487d59701c0afbc6d373d7bea5f1ae65", func := "hustings/hustingslaw10.VoteOne", spec := "voteOne", apart := false, narrowed := true }
def VoteOneUptoSaid : Prop := voteOneUptoRow.holds Try.pinned (OpenSpec.upto voteOneSpec)

/-- 'hustingslaw10.VoteMeet', WHERE WHAT IT READS IS OF BULK AT MOST 1048576: true; the input reads as it did. -/
def voteMeetUptoRow : OpenClaim := { program := "ythpplmplfamjhaa", sum := "e9b1d950b878701d606b5753fc4ac469487d59701c0afbc6d373d7bea5f1ae65", func := "hustings/hustingslaw10.VoteMeet", spec := "voteMeet", apart := false, narrowed := true }
def VoteMeetUptoSaid : Prop := voteMeetUptoRow.holds Try.pinned (OpenSpec.upto voteMeetSpec)

/-- 'hustingslaw10.VoteOrder', WHERE WHAT IT READS IS OF BULK AT MOST 1048576: true; the input reads as it did. -/
def voteOrderUptoRow : OpenClaim := { program := "ythpplmplfamjhaa", sum := "e9b1d950b878701d606b5753fc4ac469487d59701c0afbc6d373d7bea5f1ae65", func := "hustings/hustingslaw10.VoteOrder", spec := "voteOrder", apart := false, narrowed := true }
def VoteOrderUptoSaid : Prop := voteOrderUptoRow.holds Try.pinned (OpenSpec.upto voteOrderSpec)

/-- 'hustingslaw10.VoteMore', WHERE WHAT IT READS IS OF BULK AT MOST 1048576: true; the input reads as it did. -/
def voteMoreUptoRow : OpenClaim := { program := "ythpplmplfamjhaa", sum := "e9b1d950b878701d606b5753fc4ac469487d59701c0afbc6d373d7bea5f1ae65", func := "hustings/hustingslaw10.VoteMore", spec := "voteMore", apart := false, narrowed := true }
def VoteMoreUptoSaid : Prop := voteMoreUptoRow.holds Try.pinned (OpenSpec.upto voteMoreSpec)

end Rows
end Go.Proofs.Ythpplmplfamjhaa
