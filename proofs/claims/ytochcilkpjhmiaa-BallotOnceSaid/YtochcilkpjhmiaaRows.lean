/-
  No cell of these rows narrows 'for every input' (looked for: loops, veiled, ifaces, maps, wideKeys, modest, calm, conditions, laid).
  DERIVED. THE GIVEN ROWS OF THIS SEAT. 8 by the template 'for every input the law returns true; each argument reads behind the call as it read before'; 0 by the template 'total and deterministic' (their statements: YtochcilkpjhmiaaTotals.lean).
  GIVEN WITH THE SEED: the statements are not yours to turn. If you find one false, say at which input.
  Laid BY PROGRAM, IN A SANDBOX (cutbox-rows.mjs): the forced cells as the released guide's own fill.sh prints them over the translation 18aa80a5de6bb1ec… (all of the seat's roots in one cut). By AI agents, Wed Nov 11 2026. No macro, syntax, notation, axiom, sorry.
-/
import Derived.Test.YtochcilkpjhmiaaChecked
import GoSem.Claim
import GoSem.ClaimJoined
import GoSem.ClaimMapViews
import Derived.JoinedTies
import Derived.KernelRfl
namespace Go.Proofs.Ytochcilkpjhmiaa
/- THE CELL 'sum', in the pinned program and in every row, IS THE sha256 OF THE DUMP (.gsa) THAT YtochcilkpjhmiaaProg.lean LOADS. Nothing in Lean hashes anything: it is a label: what it is worth is what the hold of that sum in a sandbox is worth. -/
noncomputable def Try.pinned : Pinned := { name := "ytochcilkpjhmiaa", sum := "18aa80a5de6bb1ec5f7aba64537403dd7f4b84557ccc7dd22538a92378160725", checked := Try.checked }
namespace Rows
def none {H : Type} : Left H := { results := [], args := [] }

/-- 'butterylaw15.BallotGrants': WHATEVER THE INPUT: true; the input reads as it did. -/
def ballotGrantsSpec : ChangeSpec := { name := "ballotGrants", fn := fun _ => fun
  | [d1, d2, d3, d4, d5, d6, d7] => { results := [.lit (.bool true)], args := [d1, d2, d3, d4, d5, d6, d7] }
  | _ => none }
def ballotGrantsRow : OpenClaim := { program := "ytochcilkpjhmiaa", sum := "18aa80a5de6bb1ec5f7aba64537403dd7f4b84557ccc7dd22538a92378160725", func := "buttery/butterylaw15.BallotGrants", spec := "ballotGrants", apart := false }
def BallotGrantsSaid : Prop := ballotGrantsRow.holds Try.pinned (OpenSpec.ofChange ballotGrantsSpec)

/-- ITS FALSE NEIGHBOUR: 'it returns false'. Refute it at one input. -/
def ballotGrantsWrong : ChangeSpec := { name := "ballotGrants", fn := fun _ => fun
  | [d1, d2, d3, d4, d5, d6, d7] => { results := [.lit (.bool false)], args := [d1, d2, d3, d4, d5, d6, d7] }
  | _ => none }
def BallotGrantsWrongFalsely : Prop := ballotGrantsRow.holds Try.pinned (OpenSpec.ofChange ballotGrantsWrong)

/-- 'butterylaw15.BallotTurns': WHATEVER THE INPUT: true; the input reads as it did. -/
def ballotTurnsSpec : ChangeSpec := { name := "ballotTurns", fn := fun _ => fun
  | [d1, d2, d3] => { results := [.lit (.bool true)], args := [d1, d2, d3] }
  | _ => none }
def ballotTurnsRow : OpenClaim := { program := "ytochcilkpjhmiaa", sum := "18aa80a5de6bb1ec5f7aba64537403dd7f4b84557ccc7dd22538a92378160725", func := "buttery/butterylaw15.BallotTurns", spec := "ballotTurns", inPlace := ["slices.overlaps[int]"], recurses := true, apart := false }
def BallotTurnsSaid : Prop := ballotTurnsRow.holds Try.pinned (OpenSpec.ofChange ballotTurnsSpec)

/-- ITS FALSE NEIGHBOUR: 'it returns false'. Refute it at one input. -/
def ballotTurnsWrong : ChangeSpec := { name := "ballotTurns", fn := fun _ => fun
  | [d1, d2, d3] => { results := [.lit (.bool false)], args := [d1, d2, d3] }
  | _ => none }
def BallotTurnsWrongFalsely : Prop := ballotTurnsRow.holds Try.pinned (OpenSpec.ofChange ballotTurnsWrong)

/-- 'butterylaw15.BallotCounts': WHATEVER THE INPUT: true; the input reads as it did. -/
def ballotCountsSpec : ChangeSpec := { name := "ballotCounts", fn := fun _ => fun
  | [d1, d2, d3] => { results := [.lit (.bool true)], args := [d1, d2, d3] }
  | _ => none }
def ballotCountsRow : OpenClaim := { program := "ytochcilkpjhmiaa", sum := "18aa80a5de6bb1ec5f7aba64537403dd7f4b84557ccc7dd22538a92378160725", func := "buttery/butterylaw15.BallotCounts", spec := "ballotCounts", unfollowed := true, recurses := true, apart := false }
def BallotCountsSaid : Prop := ballotCountsRow.holds Try.pinned (OpenSpec.ofChange ballotCountsSpec)

/-- ITS FALSE NEIGHBOUR: 'it returns false'. Refute it at one input. -/
def ballotCountsWrong : ChangeSpec := { name := "ballotCounts", fn := fun _ => fun
  | [d1, d2, d3] => { results := [.lit (.bool false)], args := [d1, d2, d3] }
  | _ => none }
def BallotCountsWrongFalsely : Prop := ballotCountsRow.holds Try.pinned (OpenSpec.ofChange ballotCountsWrong)

/-- 'butterylaw15.BallotCommon': WHATEVER THE INPUT: true; the input reads as it did. -/
def ballotCommonSpec : ChangeSpec := { name := "ballotCommon", fn := fun _ => fun
  | [d1, d2] => { results := [.lit (.bool true)], args := [d1, d2] }
  | _ => none }
def ballotCommonRow : OpenClaim := { program := "ytochcilkpjhmiaa", sum := "18aa80a5de6bb1ec5f7aba64537403dd7f4b84557ccc7dd22538a92378160725", func := "buttery/butterylaw15.BallotCommon", spec := "ballotCommon", unfollowed := true, recurses := true, apart := false }
def BallotCommonSaid : Prop := ballotCommonRow.holds Try.pinned (OpenSpec.ofChange ballotCommonSpec)

/-- ITS FALSE NEIGHBOUR: 'it returns false'. Refute it at one input. -/
def ballotCommonWrong : ChangeSpec := { name := "ballotCommon", fn := fun _ => fun
  | [d1, d2] => { results := [.lit (.bool false)], args := [d1, d2] }
  | _ => none }
def BallotCommonWrongFalsely : Prop := ballotCommonRow.holds Try.pinned (OpenSpec.ofChange ballotCommonWrong)

/-- 'butterylaw15.BallotOnce': WHATEVER THE INPUT: true; the input reads as it did. -/
def ballotOnceSpec : ChangeSpec := { name := "ballotOnce", fn := fun _ => fun
  | [d] => { results := [.lit (.bool true)], args := [d] }
  | _ => none }
def ballotOnceRow : OpenClaim := { program := "ytochcilkpjhmiaa", sum := "18aa80a5de6bb1ec5f7aba64537403dd7f4b84557ccc7dd22538a92378160725", func := "buttery/butterylaw15.BallotOnce", spec := "ballotOnce", unfollowed := true, recurses := true, apart := false }
def BallotOnceSaid : Prop := ballotOnceRow.holds Try.pinned (OpenSpec.ofChange ballotOnceSpec)

/-- ITS FALSE NEIGHBOUR: 'it returns false'. Refute it at one input. -/
def ballotOnceWrong : ChangeSpec := { name := "ballotOnce", fn := fun _ => fun
  | [d] => { results := [.lit (.bool false)], args := [d] }
  | _ => none }
def BallotOnceWrongFalsely : Prop := ballotOnceRow.holds Try.pinned (OpenSpec.ofChange ballotOnceWrong)

/-- 'butterylaw15.BallotOrder': WHATEVER THE INPUT: true; the input reads as it did. -/
def ballotOrderSpec : ChangeSpec := { name := "ballotOrder", fn := fun _ => fun
  | [d1, d2, d3, d4, d5] => { results := [.lit (.bool true)], args := [d1, d2, d3, d4, d5] }
  | _ => none }
def ballotOrderRow : OpenClaim := { program := "ytochcilkpjhmiaa", sum := "18aa80a5de6bb1ec5f7aba64537403dd7f4b84557ccc7dd22538a92378160725", func := "buttery/butterylaw15.BallotOrder", spec := "ballotOrder", unfollowed := true, recurses := true, apart := false }
def BallotOrderSaid : Prop := ballotOrderRow.holds Try.pinned (OpenSpec.ofChange ballotOrderSpec)

/-- ITS FALSE NEIGHBOUR: 'it returns false'. Refute it at one input. -/
def ballotOrderWrong : ChangeSpec := { name := "ballotOrder", fn := fun _ => fun
  | [d1, d2, d3, d4, d5] => { results := [.lit (.bool false)], args := [d1, d2, d3, d4, d5] }
  | _ => none }
def BallotOrderWrongFalsely : Prop := ballotOrderRow.holds Try.pinned (OpenSpec.ofChange ballotOrderWrong)

/-- 'butterylaw15.BallotMeets': WHATEVER THE INPUT: true; the input reads as it did. -/
def ballotMeetsSpec : ChangeSpec := { name := "ballotMeets", fn := fun _ => fun
  | [d1, d2, d3, d4] => { results := [.lit (.bool true)], args := [d1, d2, d3, d4] }
  | _ => none }
def ballotMeetsRow : OpenClaim := { program := "ytochcilkpjhmiaa", sum := "18aa80a5de6bb1ec5f7aba64537403dd7f4b84557ccc7dd22538a92378160725", func := "buttery/butterylaw15.BallotMeets", spec := "ballotMeets", inPlace := ["slices.overlaps[int]"], unfollowed := true, recurses := true, apart := false }
def BallotMeetsSaid : Prop := ballotMeetsRow.holds Try.pinned (OpenSpec.ofChange ballotMeetsSpec)

/-- ITS FALSE NEIGHBOUR: 'it returns false'. Refute it at one input. -/
def ballotMeetsWrong : ChangeSpec := { name := "ballotMeets", fn := fun _ => fun
  | [d1, d2, d3, d4] => { results := [.lit (.bool false)], args := [d1, d2, d3, d4] }
  | _ => none }
def BallotMeetsWrongFalsely : Prop := ballotMeetsRow.holds Try.pinned (OpenSpec.ofChange ballotMeetsWrong)

/-- 'butterylaw15.BallotNames': WHATEVER THE INPUT: true; the input reads as it did. -/
def ballotNamesSpec : ChangeSpec := { name := "ballotNames", fn := fun _ => fun
  | [] => { results := [.lit (.bool true)], args := [] }
  | _ => none }
def ballotNamesRow : OpenClaim := { program := "ytochcilkpjhmiaa", sum := "18aa80a5de6bb1ec5f7aba64537403dd7f4b84557ccc7dd22538a92378160725", func := "buttery/butterylaw15.BallotNames", spec := "ballotNames", inPlace := ["slices.overlaps[int]"], unfollowed := true, recurses := true, apart := false }
def BallotNamesSaid : Prop := ballotNamesRow.holds Try.pinned (OpenSpec.ofChange ballotNamesSpec)

/-- ITS FALSE NEIGHBOUR: 'it returns false'. Refute it at one input. -/
def ballotNamesWrong : ChangeSpec := { name := "ballotNames", fn := fun _ => fun
  | [] => { results := [.lit (.bool false)], args := [] }
  | _ => none }
def BallotNamesWrongFalsely : Prop := ballotNamesRow.holds Try.pinned (OpenSpec.ofChange ballotNamesWrong)

/- THE SECOND FORM. 'bulk': how many values and letters a reading holds, each counted each time it is reached (what is shared counts as often as it is met; a slice's spare places count too). A statement '..UptoSaid' is the law's where the arguments, and the package variables that the reading takes, are together of bulk at most 1048576: NARROWER than '..Said'. Prove '..Said' where nothing that the law and all that it calls make is longer than what came in: it says more and counts as full. Else prove '..UptoSaid'. A law counts once. -/
mutual
def uptoBulk {H : Type} : DataW H → Nat
  | .lit (.string bytes) => bytes.length + 1
  | .lit _ => 1
  | .nil => 1
  | .ptr d => uptoBulk d + 1
  | .slice elems spare => uptoBulkAll elems + uptoBulkAll spare + 1
  | .agg parts => uptoBulkAll parts + 1
  | .iface _ d => uptoBulk d + 1
  | .map entries => uptoBulkEntries entries + 1
  | .held _ => 1
def uptoBulkAll {H : Type} : List (DataW H) → Nat
  | [] => 0
  | d :: r => uptoBulk d + uptoBulkAll r
def uptoBulkEntries {H : Type} : List (Lit × DataW H) → Nat
  | [] => 0
  | x :: r => uptoBulkEntry x + uptoBulkEntries r
def uptoBulkEntry {H : Type} : Lit × DataW H → Nat
  | (.string bytes, d) => bytes.length + uptoBulk d + 1
  | (_, d) => uptoBulk d + 1
 end
def uptoSmall : (H : Type) → List (DataW H) → Bool := fun _ ds => decide (uptoBulkAll ds ≤ 1048576)
def OpenSpec.upto (s : _root_.Go.ChangeSpec) : _root_.Go.OpenSpec := { _root_.Go.OpenSpec.ofChange s with cond := some uptoSmall }

/-- 'butterylaw15.BallotGrants', WHERE WHAT IT READS IS OF BULK AT MOST 1048576: true; the input reads as it did. -/
def ballotGrantsUptoRow : OpenClaim := { program := "ytochcilkpjhmiaa", sum := "18aa80a5de6bb1ec5f7aba64537403dd7f4b84557ccc7dd22538a92378160725", func := "buttery/butterylaw15.BallotGrants", spec := "ballotGrants", apart := false, narrowed := true }
def BallotGrantsUptoSaid : Prop := ballotGrantsUptoRow.holds Try.pinned (OpenSpec.upto ballotGrantsSpec)

/-- 'butterylaw15.BallotTurns', WHERE WHAT IT READS IS OF BULK AT MOST 1048576: true; the input reads as it did. -/
def ballotTurnsUptoRow : OpenClaim := { program := "ytochcilkpjhmiaa", sum := "18aa80a5de6bb1ec5f7aba64537403dd7f4b84557ccc7dd22538a92378160725", func := "buttery/butterylaw15.BallotTurns", spec := "ballotTurns", inPlace := ["slices.overlaps[int]"], recurses := true, apart := false, narrowed := true }
def BallotTurnsUptoSaid : Prop := ballotTurnsUptoRow.holds Try.pinned (OpenSpec.upto ballotTurnsSpec)

/-- 'butterylaw15.BallotCounts', WHERE WHAT IT READS IS OF BULK AT MOST 1048576: true; the input reads as it did. -/
def ballotCountsUptoRow : OpenClaim := { program := "ytochcilkpjhmiaa", sum := "18aa80a5de6bb1ec5f7aba64537403dd7f4b84557ccc7dd22538a92378160725", func := "buttery/butterylaw15.BallotCounts", spec := "ballotCounts", unfollowed := true, recurses := true, apart := false, narrowed := true }
def BallotCountsUptoSaid : Prop := ballotCountsUptoRow.holds Try.pinned (OpenSpec.upto ballotCountsSpec)

/-- 'butterylaw15.BallotCommon', WHERE WHAT IT READS IS OF BULK AT MOST 1048576: true; the input reads as it did. -/
def ballotCommonUptoRow : OpenClaim := { program := "ytochcilkpjhmiaa", sum := "18aa80a5de6bb1ec5f7aba64537403dd7f4b84557ccc7dd22538a92378160725", func := "buttery/butterylaw15.BallotCommon", spec := "ballotCommon", unfollowed := true, recurses := true, apart := false, narrowed := true }
def BallotCommonUptoSaid : Prop := ballotCommonUptoRow.holds Try.pinned (OpenSpec.upto ballotCommonSpec)

/-- 'butterylaw15.BallotOnce', WHERE WHAT IT READS IS OF BULK AT MOST 1048576: true; the input reads as it did. -/
def ballotOnceUptoRow : OpenClaim := { program := "ytochcilkpjhmiaa", sum := "18aa80a5de6bb1ec5f7aba64537403dd7f4b84557ccc7dd22538a92378160725", func := "buttery/butterylaw15.BallotOnce", spec := "ballotOnce", unfollowed := true, recurses := true, apart := false, narrowed := true }
def BallotOnceUptoSaid : Prop := ballotOnceUptoRow.holds Try.pinned (OpenSpec.upto ballotOnceSpec)

/-- 'butterylaw15.BallotOrder', WHERE WHAT IT READS IS OF BULK AT MOST 1048576: true; the input reads as it did. -/
def ballotOrderUptoRow : OpenClaim := { program := "ytochcilkpjhmiaa", sum := "18aa80a5de6bb1ec5f7aba64537403dd7f4b84557ccc7dd22538a92378160725", func := "buttery/butterylaw15.BallotOrder", spec := "ballotOrder", unfollowed := true, recurses := true, apart := false, narrowed := true }
def BallotOrderUptoSaid : Prop := ballotOrderUptoRow.holds Try.pinned (OpenSpec.upto ballotOrderSpec)

/-- 'butterylaw15.BallotMeets', WHERE WHAT IT READS IS OF BULK AT MOST 1048576: true; the input reads as it did. -/
def ballotMeetsUptoRow : OpenClaim := { program := "ytochcilkpjhmiaa", sum := "18aa80a5de6bb1ec5f7aba64537403dd7f4b84557ccc7dd22538a92378160725", func := "buttery/butterylaw15.BallotMeets", spec := "ballotMeets", inPlace := ["slices.overlaps[int]"], unfollowed := true, recurses := true, apart := false, narrowed := true }
def BallotMeetsUptoSaid : Prop := ballotMeetsUptoRow.holds Try.pinned (OpenSpec.upto ballotMeetsSpec)

/-- 'butterylaw15.BallotNames', WHERE WHAT IT READS IS OF BULK AT MOST 1048576: true; the input reads as it did. -/
def ballotNamesUptoRow : OpenClaim := { program := "ytochcilkpjhmiaa", sum := "18aa80a5de6bb1ec5f7aba64537403dd7f4b84557ccc7dd22538a92378160725", func := "buttery/butterylaw15.BallotNames", spec := "ballotNames", inPlace := ["slices.overlaps[int]"], unfollowed := true, recurses := true, apart := false, narrowed := true }
def BallotNamesUptoSaid : Prop := ballotNamesUptoRow.holds Try.pinned (OpenSpec.upto ballotNamesSpec)

end Rows
end Go.Proofs.Ytochcilkpjhmiaa
