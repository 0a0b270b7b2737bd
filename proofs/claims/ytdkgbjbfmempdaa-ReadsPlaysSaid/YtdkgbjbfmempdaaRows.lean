/-
  No cell of these rows narrows 'for every input' (looked for: loops, veiled, ifaces, maps, wideKeys, modest, calm, conditions, laid).
  DERIVED. THE GIVEN ROWS OF THIS SEAT. 5 by the template 'for every input the law returns true; each argument reads behind the call as it read before'; 0 by the template 'total and deterministic' (their statements: YtdkgbjbfmempdaaTotals.lean).
  GIVEN WITH THE SEED: the statements are not yours to turn. If you find one false, say at which input.
  Laid BY PROGRAM, IN A SANDBOX (cutbox-rows.mjs): the forced cells as the released guide's own fill.sh prints them over the translation 9f7568975110cb67… (all of the seat's roots in one cut). By AI agents, Wed Nov 11 2026. No macro, syntax, notation, axiom, sorry.
-/
import Derived.Test.YtdkgbjbfmempdaaChecked
import GoSem.Claim
import GoSem.ClaimJoined
import GoSem.ClaimMapViews
import Derived.JoinedTies
import Derived.KernelRfl
namespace Go.Proofs.Ytdkgbjbfmempdaa
/- THE CELL 'sum', in the pinned program and in every row, IS THE sha256 OF THE DUMP (.gsa) THAT YtdkgbjbfmempdaaProg.lean LOADS. Nothing in Lean hashes anything: it is a label: what it is worth is what the hold of that sum in a sandbox is worth. -/
noncomputable def Try.pinned : Pinned := { name := "ytdkgbjbfmempdaa", sum := "9f7568975110cb679a50674511ede8e40452d2e07c36def4aa213c81827c88dd", checked := Try.checked }
namespace Rows
def none {H : Type} : Left H := { results := [], args := [] }

/-- 'hustingslaw14.ReadsOnce': WHATEVER THE INPUT: true; the input reads as it did. -/
def readsOnceSpec : ChangeSpec := { name := "readsOnce", fn := fun _ => fun
  | [d1, d2, d3] => { results := [.lit (.bool true)], args := [d1, d2, d3] }
  | _ => none }
def readsOnceRow : OpenClaim := { program := "ytdkgbjbfmempdaa", sum := "9f7568975110cb679a50674511ede8e40452d2e07c36def4aa213c81827c88dd", func := "hustings/hustingslaw14.ReadsOnce", spec := "readsOnce", unfollowed := true, recurses := true, apart := false }
def ReadsOnceSaid : Prop := readsOnceRow.holds Try.pinned (OpenSpec.ofChange readsOnceSpec)

/-- ITS FALSE NEIGHBOUR: 'it returns false'. Refute it at one input. -/
def readsOnceWrong : ChangeSpec := { name := "readsOnce", fn := fun _ => fun
  | [d1, d2, d3] => { results := [.lit (.bool false)], args := [d1, d2, d3] }
  | _ => none }
def ReadsOnceWrongFalsely : Prop := readsOnceRow.holds Try.pinned (OpenSpec.ofChange readsOnceWrong)

/-- 'hustingslaw14.ReadsMajority': WHATEVER THE INPUT: true; the input reads as it did. -/
def readsMajoritySpec : ChangeSpec := { name := "readsMajority", fn := fun _ => fun
  | [d1, d2, d3, d4] => { results := [.lit (.bool true)], args := [d1, d2, d3, d4] }
  | _ => none }
def readsMajorityRow : OpenClaim := { program := "ytdkgbjbfmempdaa", sum := "9f7568975110cb679a50674511ede8e40452d2e07c36def4aa213c81827c88dd", func := "hustings/hustingslaw14.ReadsMajority", spec := "readsMajority", unfollowed := true, recurses := true, apart := false }
def ReadsMajoritySaid : Prop := readsMajorityRow.holds Try.pinned (OpenSpec.ofChange readsMajoritySpec)

/-- ITS FALSE NEIGHBOUR: 'it returns false'. Refute it at one input. -/
def readsMajorityWrong : ChangeSpec := { name := "readsMajority", fn := fun _ => fun
  | [d1, d2, d3, d4] => { results := [.lit (.bool false)], args := [d1, d2, d3, d4] }
  | _ => none }
def ReadsMajorityWrongFalsely : Prop := readsMajorityRow.holds Try.pinned (OpenSpec.ofChange readsMajorityWrong)

/-- 'hustingslaw14.ReadsPlays': WHATEVER THE INPUT: true; the input reads as it did. -/
def readsPlaysSpec : ChangeSpec := { name := "readsPlays", fn := fun _ => fun
  | [d1, d2, d3] => { results := [.lit (.bool true)], args := [d1, d2, d3] }
  | _ => none }
def readsPlaysRow : OpenClaim := { program := "ytdkgbjbfmempdaa", sum := "9f7568975110cb679a50674511ede8e40452d2e07c36def4aa213c81827c88dd", func := "hustings/hustingslaw14.ReadsPlays", spec := "readsPlays", unfollowed := true, recurses := true, apart := false }
def ReadsPlaysSaid : Prop := readsPlaysRow.holds Try.pinned (OpenSpec.ofChange readsPlaysSpec)

/-- ITS FALSE NEIGHBOUR: 'it returns false'. Refute it at one input. -/
def readsPlaysWrong : ChangeSpec := { name := "readsPlays", fn := fun _ => fun
  | [d1, d2, d3] => { results := [.lit (.bool false)], args := [d1, d2, d3] }
  | _ => none }
def ReadsPlaysWrongFalsely : Prop := readsPlaysRow.holds Try.pinned (OpenSpec.ofChange readsPlaysWrong)

/-- 'hustingslaw14.ReadsNil': WHATEVER THE INPUT: true; the input reads as it did. -/
def readsNilSpec : ChangeSpec := { name := "readsNil", fn := fun _ => fun
  | [d] => { results := [.lit (.bool true)], args := [d] }
  | _ => none }
def readsNilRow : OpenClaim := { program := "ytdkgbjbfmempdaa", sum := "9f7568975110cb679a50674511ede8e40452d2e07c36def4aa213c81827c88dd", func := "hustings/hustingslaw14.ReadsNil", spec := "readsNil", unfollowed := true, recurses := true, apart := false }
def ReadsNilSaid : Prop := readsNilRow.holds Try.pinned (OpenSpec.ofChange readsNilSpec)

/-- ITS FALSE NEIGHBOUR: 'it returns false'. Refute it at one input. -/
def readsNilWrong : ChangeSpec := { name := "readsNil", fn := fun _ => fun
  | [d] => { results := [.lit (.bool false)], args := [d] }
  | _ => none }
def ReadsNilWrongFalsely : Prop := readsNilRow.holds Try.pinned (OpenSpec.ofChange readsNilWrong)

/-- 'hustingslaw14.ReadsOrder': WHATEVER THE INPUT: true; the input reads as it did. -/
def readsOrderSpec : ChangeSpec := { name := "readsOrder", fn := fun _ => fun
  | [d1, d2, d3] => { results := [.lit (.bool true)], args := [d1, d2, d3] }
  | _ => none }
def readsOrderRow : OpenClaim := { program := "ytdkgbjbfmempdaa", sum := "9f7568975110cb679a50674511ede8e40452d2e07c36def4aa213c81827c88dd", func := "hustings/hustingslaw14.ReadsOrder", spec := "readsOrder", unfollowed := true, recurses := true, apart := false }
def ReadsOrderSaid : Prop := readsOrderRow.holds Try.pinned (OpenSpec.ofChange readsOrderSpec)

/-- ITS FALSE NEIGHBOUR: 'it returns false'. Refute it at one input. -/
def readsOrderWrong : ChangeSpec := { name := "readsOrder", fn := fun _ => fun
  | [d1, d2, d3] => { results := [.lit (.bool false)], args := [d1, d2, d3] }
  | _ => none }
def ReadsOrderWrongFalsely : Prop := readsOrderRow.holds Try.pinned (OpenSpec.ofChange readsOrderWrong)

/- THE SECOND FORM. 'bulk': how many values and letters a reading holds, each counted each time it is reached (what is shared counts as often as it is met; a slice's spare places count too). A statement '..UptoSaid' is the law's where the arguments, and the package variables that the reading takes, are together of bulk at most 1048576: NARROWER than '..Said'. Prove '..Said' where nothing that the law and all that it calls make is longer than what came in: it says more and counts as full. Else prove '..UptoSaid'. A law counts once. -/
mutual
def uptoBulk {H : Type} : DataW H → Nat
  | .lit (.string bytes) => bytes.length + 1
  | .lit _ => 1
  | .nil => 1
  | .ptr d => uptoBulk d + 1
  | .slice elems spare => uptoBulkAll elems + uptoBulkAll spare + 1
  | .agg parts => uptoBulkAll parts + 1
  | .iface _ d => uptoBulk d + 1
  | .map entries => uptoBulkEntries entries + 1
  | .held _ => 1
def uptoBulkAll {H : Type} : List (DataW H) → Nat
  | [] => 0
  | d :: r => uptoBulk d + uptoBulkAll r
def uptoBulkEntries {H : Type} : List (Lit × DataW H) → Nat
  | [] => 0
  | x :: r => uptoBulkEntry x + uptoBulkEntries r
def uptoBulkEntry {H : Type} : Lit × DataW H → Nat
  | (.string bytes, d) => bytes.length + uptoBulk d + 1
  | (_, d) => uptoBulk d + 1
 end
def uptoSmall : (H : Type) → List (DataW H) → Bool := fun _ ds => decide (uptoBulkAll ds ≤ 1048576)
def OpenSpec.upto (s : _root_.Go.ChangeSpec) : _root_.Go.OpenSpec := { _root_.Go.OpenSpec.ofChange s with cond := some uptoSmall }

/-- 'hustingslaw14.ReadsOnce', WHERE WHAT IT READS IS OF BULK AT MOST 1048576: true; the input reads as it did. -/
def readsOnceUptoRow : OpenClaim := { program := "ytdkgbjbfmempdaa", sum := "9f7568975110cb679a50674511ede8e40452d2e07c36def4aa213c81827c88dd", func := "hustings/hustingslaw14.ReadsOnce", spec := "readsOnce", unfollowed := true, recurses := true, apart := false, narrowed := true }
def ReadsOnceUptoSaid : Prop := readsOnceUptoRow.holds Try.pinned (OpenSpec.upto readsOnceSpec)

/-- 'hustingslaw14.ReadsMajority', WHERE WHAT IT READS IS OF BULK AT MOST 1048576: true; the input reads as it did. -/
def readsMajorityUptoRow : OpenClaim := { program := "ytdkgbjbfmempdaa", sum := "9f7568975110cb679a50674511ede8e40452d2e07c36def4aa213c81827c88dd", func := "hustings/hustingslaw14.ReadsMajority", spec := "readsMajority", unfollowed := true, recurses := true, apart := false, narrowed := true }
def ReadsMajorityUptoSaid : Prop := readsMajorityUptoRow.holds Try.pinned (OpenSpec.upto readsMajoritySpec)

/-- 'hustingslaw14.ReadsPlays', WHERE WHAT IT READS IS OF BULK AT MOST 1048576: true; the input reads as it did. -/
def readsPlaysUptoRow : OpenClaim := { program := "ytdkgbjbfmempdaa", sum := "9f7568975110cb679a50674511ede8e40452d2e07c36def4aa213c81827c88dd", func := "hustings/hustingslaw14.ReadsPlays", spec := "readsPlays", unfollowed := true, recurses := true, apart := false, narrowed := true }
def ReadsPlaysUptoSaid : Prop := readsPlaysUptoRow.holds Try.pinned (OpenSpec.upto readsPlaysSpec)

/-- 'hustingslaw14.ReadsNil', WHERE WHAT IT READS IS OF BULK AT MOST 1048576: true; the input reads as it did. -/
def readsNilUptoRow : OpenClaim := { program := "ytdkgbjbfmempdaa", sum := "9f7568975110cb679a50674511ede8e40452d2e07c36def4aa213c81827c88dd", func := "hustings/hustingslaw14.ReadsNil", spec := "readsNil", unfollowed := true, recurses := true, apart := false, narrowed := true }
def ReadsNilUptoSaid : Prop := readsNilUptoRow.holds Try.pinned (OpenSpec.upto readsNilSpec)

/-- 'hustingslaw14.ReadsOrder', WHERE WHAT IT READS IS OF BULK AT MOST 1048576: true; the input reads as it did. -/
def readsOrderUptoRow : OpenClaim := { program := "ytdkgbjbfmempdaa", sum := "9f7568975110cb679a50674511ede8e40452d2e07c36def4aa213c81827c88dd", func := "hustings/hustingslaw14.ReadsOrder", spec := "readsOrder", unfollowed := true, recurses := true, apart := false, narrowed := true }
def ReadsOrderUptoSaid : Prop := readsOrderUptoRow.holds Try.pinned (OpenSpec.upto readsOrderSpec)

end Rows
end Go.Proofs.Ytdkgbjbfmempdaa
