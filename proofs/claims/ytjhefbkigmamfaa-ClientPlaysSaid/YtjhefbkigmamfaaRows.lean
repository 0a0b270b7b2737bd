/-
  No cell of these rows narrows 'for every input' (looked for: loops, veiled, ifaces, maps, wideKeys, modest, calm, conditions, laid).
  DERIVED. THE GIVEN ROWS OF THIS SEAT. 6 by the template 'for every input the law returns true; each argument reads behind the call as it read before'; 0 by the template 'total and deterministic' (their statements: YtjhefbkigmamfaaTotals.lean).
  GIVEN WITH THE SEED: the statements are not yours to turn. If you find one false, say at which input.
  Laid BY PROGRAM, IN A SANDBOX (cutbox-rows.mjs): the forced cells as the released guide's own fill.sh prints them over the translation 82e63b4898b68544… (all of the seat's roots in one cut). By AI agents, Wed Nov 11 2026. No macro, syntax, notation, axiom, sorry.
-/
import Derived.Test.YtjhefbkigmamfaaChecked
import GoSem.Claim
import GoSem.ClaimJoined
import GoSem.ClaimMapViews
import Derived.JoinedTies
import Derived.KernelRfl
namespace Go.Proofs.Ytjhefbkigmamfaa
/- THE CELL 'sum', in the pinned program and in every row, IS THE sha256 OF THE DUMP (.gsa) THAT YtjhefbkigmamfaaProg.lean LOADS. Nothing in Lean hashes anything: it is a label: what it is worth is what the hold of that sum in a sandbox is worth. -/
noncomputable def Try.pinned : Pinned := { name := "ytjhefbkigmamfaa", sum := "82e63b4898b685442f856fd20f61b21a2e0fee234160a8e7ce4e7970e868d78a", checked := Try.checked }
namespace Rows
def none {H : Type} : Left H := { results := [], args := [] }

/-- 'hustingslaw18.ClientAll': WHATEVER THE INPUT: true; the input reads as it did. -/
def clientAllSpec : ChangeSpec := { name := "clientAll", fn := fun _ => fun
  | [d1, d2, d3] => { results := [.lit (.bool true)], args := [d1, d2, d3] }
  | _ => none }
def clientAllRow : OpenClaim := { program := "ytjhefbkigmamfaa", sum := "82e63b4898b685442f856fd20f61b21a2e0fee234160a8e7ce4e7970e868d78a", func := "hustings/hustingslaw18.ClientAll", spec := "clientAll", unfollowed := true, recurses := true, apart := false }
def ClientAllSaid : Prop := clientAllRow.holds Try.pinned (OpenSpec.ofChange clientAllSpec)

/-- ITS FALSE NEIGHBOUR: 'it returns false'. Refute it at one input. -/
def clientAllWrong : ChangeSpec := { name := "clientAll", fn := fun _ => fun
  | [d1, d2, d3] => { results := [.lit (.bool false)], args := [d1, d2, d3] }
  | _ => none }
def ClientAllWrongFalsely : Prop := clientAllRow.holds Try.pinned (OpenSpec.ofChange clientAllWrong)

/-- 'hustingslaw18.ClientApart': WHATEVER THE INPUT: true; the input reads as it did. -/
def clientApartSpec : ChangeSpec := { name := "clientApart", fn := fun _ => fun
  | [d1, d2, d3, d4] => { results := [.lit (.bool true)], args := [d1, d2, d3, d4] }
  | _ => none }
def clientApartRow : OpenClaim := { program := "ytjhefbkigmamfaa", sum := "82e63b4898b685442f856fd20f61b21a2e0fee234160a8e7ce4e7970e868d78a", func := "hustings/hustingslaw18.ClientApart", spec := "clientApart", unfollowed := true, recurses := true, apart := false }
def ClientApartSaid : Prop := clientApartRow.holds Try.pinned (OpenSpec.ofChange clientApartSpec)

/-- ITS FALSE NEIGHBOUR: 'it returns false'. Refute it at one input. -/
def clientApartWrong : ChangeSpec := { name := "clientApart", fn := fun _ => fun
  | [d1, d2, d3, d4] => { results := [.lit (.bool false)], args := [d1, d2, d3, d4] }
  | _ => none }
def ClientApartWrongFalsely : Prop := clientApartRow.holds Try.pinned (OpenSpec.ofChange clientApartWrong)

/-- 'hustingslaw18.ClientEnds': WHATEVER THE INPUT: true; the input reads as it did. -/
def clientEndsSpec : ChangeSpec := { name := "clientEnds", fn := fun _ => fun
  | [d1, d2, d3] => { results := [.lit (.bool true)], args := [d1, d2, d3] }
  | _ => none }
def clientEndsRow : OpenClaim := { program := "ytjhefbkigmamfaa", sum := "82e63b4898b685442f856fd20f61b21a2e0fee234160a8e7ce4e7970e868d78a", func := "hustings/hustingslaw18.ClientEnds", spec := "clientEnds", unfollowed := true, recurses := true, apart := false }
def ClientEndsSaid : Prop := clientEndsRow.holds Try.pinned (OpenSpec.ofChange clientEndsSpec)

/-- ITS FALSE NEIGHBOUR: 'it returns false'. Refute it at one input. -/
def clientEndsWrong : ChangeSpec := { name := "clientEnds", fn := fun _ => fun
  | [d1, d2, d3] => { results := [.lit (.bool false)], args := [d1, d2, d3] }
  | _ => none }
def ClientEndsWrongFalsely : Prop := clientEndsRow.holds Try.pinned (OpenSpec.ofChange clientEndsWrong)

/-- 'hustingslaw18.ClientPlays': WHATEVER THE INPUT: true; the input reads as it did. -/
def clientPlaysSpec : ChangeSpec := { name := "clientPlays", fn := fun _ => fun
  | [d1, d2, d3, d4, d5] => { results := [.lit (.bool true)], args := [d1, d2, d3, d4, d5] }
  | _ => none }
def clientPlaysRow : OpenClaim := { program := "ytjhefbkigmamfaa", sum := "82e63b4898b685442f856fd20f61b21a2e0fee234160a8e7ce4e7970e868d78a", func := "hustings/hustingslaw18.ClientPlays", spec := "clientPlays", unfollowed := true, recurses := true, apart := false }
def ClientPlaysSaid : Prop := clientPlaysRow.holds Try.pinned (OpenSpec.ofChange clientPlaysSpec)

/-- ITS FALSE NEIGHBOUR: 'it returns false'. Refute it at one input. -/
def clientPlaysWrong : ChangeSpec := { name := "clientPlays", fn := fun _ => fun
  | [d1, d2, d3, d4, d5] => { results := [.lit (.bool false)], args := [d1, d2, d3, d4, d5] }
  | _ => none }
def ClientPlaysWrongFalsely : Prop := clientPlaysRow.holds Try.pinned (OpenSpec.ofChange clientPlaysWrong)

/-- 'hustingslaw18.ClientNil': WHATEVER THE INPUT: true; the input reads as it did. -/
def clientNilSpec : ChangeSpec := { name := "clientNil", fn := fun _ => fun
  | [d] => { results := [.lit (.bool true)], args := [d] }
  | _ => none }
def clientNilRow : OpenClaim := { program := "ytjhefbkigmamfaa", sum := "82e63b4898b685442f856fd20f61b21a2e0fee234160a8e7ce4e7970e868d78a", func := "hustings/hustingslaw18.ClientNil", spec := "clientNil", unfollowed := true, recurses := true, apart := false }
def ClientNilSaid : Prop := clientNilRow.holds Try.pinned (OpenSpec.ofChange clientNilSpec)

/-- ITS FALSE NEIGHBOUR: 'it returns false'. Refute it at one input. -/
def clientNilWrong : ChangeSpec := { name := "clientNil", fn := fun _ => fun
  | [d] => { results := [.lit (.bool false)], args := [d] }
  | _ => none }
def ClientNilWrongFalsely : Prop := clientNilRow.holds Try.pinned (OpenSpec.ofChange clientNilWrong)

/-- 'hustingslaw18.ClientSame': WHATEVER THE INPUT: true; the input reads as it did. -/
def clientSameSpec : ChangeSpec := { name := "clientSame", fn := fun _ => fun
  | [d1, d2, d3] => { results := [.lit (.bool true)], args := [d1, d2, d3] }
  | _ => none }
def clientSameRow : OpenClaim := { program := "ytjhefbkigmamfaa", sum := "82e63b4898b685442f856fd20f61b21a2e0fee234160a8e7ce4e7970e868d78a", func := "hustings/hustingslaw18.ClientSame", spec := "clientSame", unfollowed := true, recurses := true, apart := false }
def ClientSameSaid : Prop := clientSameRow.holds Try.pinned (OpenSpec.ofChange clientSameSpec)

/-- ITS FALSE NEIGHBOUR: 'it returns false'. Refute it at one input. -/
def clientSameWrong : ChangeSpec := { name := "clientSame", fn := fun _ => fun
  | [d1, d2, d3] => { results := [.lit (.bool false)], args := [d1, d2, d3] }
  | _ => none }
def ClientSameWrongFalsely : Prop := clientSameRow.holds Try.pinned (OpenSpec.ofChange clientSameWrong)

/- THE SECOND FORM. 'bulk': how many values and letters a reading holds, each counted each time it is reached (what is shared counts as often as it is met; a slice's spare places count too). A statement '..UptoSaid' is the law's where the arguments, and the package variables that the reading takes, are together of bulk at most 1048576: NARROWER than '..Said'. Prove '..Said' where nothing that the law and all that it calls make is longer than what came in: it says more and counts as full. Else prove '..UptoSaid'. A law counts once. -/
mutual
def uptoBulk {H : Type} : DataW H → Nat
  | .lit (.string bytes) => bytes.length + 1
  | .lit _ => 1
  | .nil => 1
  | .ptr d => uptoBulk d + 1
  | .slice elems spare => uptoBulkAll elems + uptoBulkAll spare + 1
  | .agg parts => uptoBulkAll parts + 1
  | .iface _ d => uptoBulk d + 1
  | .map entries => uptoBulkEntries entries + 1
  | .held _ => 1
def uptoBulkAll {H : Type} : List (DataW H) → Nat
  | [] => 0
  | d :: r => uptoBulk d + uptoBulkAll r
def uptoBulkEntries {H : Type} : List (Lit × DataW H) → Nat
  | [] => 0
  | x :: r => uptoBulkEntry x + uptoBulkEntries r
def uptoBulkEntry {H : Type} : Lit × DataW H → Nat
  | (.string bytes, d) => bytes.length + uptoBulk d + 1
  | (_, d) => uptoBulk d + 1
 end
def uptoSmall : (H : Type) → List (DataW H) → Bool := fun _ ds => decide (uptoBulkAll ds ≤ 1048576)
def OpenSpec.upto (s : _root_.Go.ChangeSpec) : _root_.Go.OpenSpec := { _root_.Go.OpenSpec.ofChange s with cond := some uptoSmall }

/-- 'hustingslaw18.ClientAll', WHERE WHAT IT READS IS OF BULK AT MOST 1048576: true; the input reads as it did. -/
def clientAllUptoRow : OpenClaim := { program := "ytjhefbkigmamfaa", sum := "82e63b4898b685442f856fd20f61b21a2e0fee234160a8e7ce4e7970e868d78a", func := "hustings/hustingslaw18.ClientAll", spec := "clientAll", unfollowed := true, recurses := true, apart := false, narrowed := true }
def ClientAllUptoSaid : Prop := clientAllUptoRow.holds Try.pinned (OpenSpec.upto clientAllSpec)

/-- 'hustingslaw18.ClientApart', WHERE WHAT IT READS IS OF BULK AT MOST 1048576: true; the input reads as it did. -/
def clientApartUptoRow : OpenClaim := { program := "ytjhefbkigmamfaa", sum := "82e63b4898b685442f856fd20f61b21a2e0fee234160a8e7ce4e7970e868d78a", func := "hustings/hustingslaw18.ClientApart", spec := "clientApart", unfollowed := true, recurses := true, apart := false, narrowed := true }
def ClientApartUptoSaid : Prop := clientApartUptoRow.holds Try.pinned (OpenSpec.upto clientApartSpec)

/-- 'hustingslaw18.ClientEnds', WHERE WHAT IT READS IS OF BULK AT MOST 1048576: true; the input reads as it did. -/
def clientEndsUptoRow : OpenClaim := { program := "ytjhefbkigmamfaa", sum := "82e63b4898b685442f856fd20f61b21a2e0fee234160a8e7ce4e7970e868d78a", func := "hustings/hustingslaw18.ClientEnds", spec := "clientEnds", unfollowed := true, recurses := true, apart := false, narrowed := true }
def ClientEndsUptoSaid : Prop := clientEndsUptoRow.holds Try.pinned (OpenSpec.upto clientEndsSpec)

/-- 'hustingslaw18.ClientPlays', WHERE WHAT IT READS IS OF BULK AT MOST 1048576: true; the input reads as it did. -/
def clientPlaysUptoRow : OpenClaim := { program := "ytjhefbkigmamfaa", sum := "82e63b4898b685442f856fd20f61b21a2e0fee234160a8e7ce4e7970e868d78a", func := "hustings/hustingslaw18.ClientPlays", spec := "clientPlays", unfollowed := true, recurses := true, apart := false, narrowed := true }
def ClientPlaysUptoSaid : Prop := clientPlaysUptoRow.holds Try.pinned (OpenSpec.upto clientPlaysSpec)

/-- 'hustingslaw18.ClientNil', WHERE WHAT IT READS IS OF BULK AT MOST 1048576: true; the input reads as it did. -/
def clientNilUptoRow : OpenClaim := { program := "ytjhefbkigmamfaa", sum := "82e63b4898b685442f856fd20f61b21a2e0fee234160a8e7ce4e7970e868d78a", func := "hustings/hustingslaw18.ClientNil", spec := "clientNil", unfollowed := true, recurses := true, apart := false, narrowed := true }
def ClientNilUptoSaid : Prop := clientNilUptoRow.holds Try.pinned (OpenSpec.upto clientNilSpec)

/-- 'hustingslaw18.ClientSame', WHERE WHAT IT READS IS OF BULK AT MOST 1048576: true; the input reads as it did. -/
def clientSameUptoRow : OpenClaim := { program := "ytjhefbkigmamfaa", sum := "82e63b4898b685442f856fd20f61b21a2e0fee234160a8e7ce4e7970e868d78a", func := "hustings/hustingslaw18.ClientSame", spec := "clientSame", unfollowed := true, recurses := true, apart := false, narrowed := true }
def ClientSameUptoSaid : Prop := clientSameUptoRow.holds Try.pinned (OpenSpec.upto clientSameSpec)

end Rows
end Go.Proofs.Ytjhefbkigmamfaa
