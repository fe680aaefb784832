/-
  No cell of these rows narrows 'for every input' (looked for: loops, veiled, ifaces, maps, wideKeys, modest, calm, conditions, laid).
  DERIVED. THE GIVEN ROWS OF THIS SEAT. 6 by the template 'for every input the law returns true; each argument reads behind the call as it read before'; 0 by the template 'total and deterministic' (their statements: YtajbagdgjbihjaaTotals.lean).
  GIVEN WITH THE SEED: the statements are not yours to turn. If you find one false, say at which input.
  Laid BY PROGRAM, IN A SANDBOX (cutbox-rows.mjs): the forced cells as the released guide's own fill.sh prints them over the translation 4e617d52572c7030… (all of the seat's roots in one cut). By AI agents, Wed Nov 11 2026. No macro, syntax, notation, axiom, sorry.
-/
import Derived.Test.YtajbagdgjbihjaaChecked
import GoSem.Claim
import GoSem.ClaimJoined
import GoSem.ClaimMapViews
import Derived.JoinedTies
import Derived.KernelRfl
namespace Go.Proofs.Ytajbagdgjbihjaa
/- THE CELL 'sum', in the pinned program and in every row, IS THE sha256 OF THE DUMP (.gsa) THAT YtajbagdgjbihjaaProg.lean LOADS. Nothing in Lean hashes anything: it is a label: what it is worth is what the hold of that sum in a sandbox is worth. -/
noncomputable def Try.pinned : Pinned := { name := "ytajbagdgjbihjaa", sum := "4e617d52572c70304ffbb1294320b485b06044af3e3b5acdbc03976660986bd7", checked := Try.checked }
namespace Rows
def none {H : Type} : Left H := { results := [], args := [] }

/-- 'butterylaw30.LinearNames': WHATEVER THE INPUT: true; the input reads as it did. -/
def linearNamesSpec : ChangeSpec := { name := "linearNames", fn := fun _ => fun
  | [] => { results := [.lit (.bool true)], args := [] }
  | _ => none }
def linearNamesRow : OpenClaim := { program := "ytajbagdgjbihjaa", sum := "4e617d52572c70304ffbb1294320b485b06044af3e3b5acdbc03976660986bd7", func := "buttery/butterylaw30.LinearNames", spec := "linearNames", inPlace := ["slices.overlaps[buttery/api.Pair]"], unfollowed := true, recurses := true, plainKeys := false, apart := false }
def LinearNamesSaid : Prop := linearNamesRow.holds Try.pinned (OpenSpec.ofChange linearNamesSpec)

/-- ITS FALSE NEIGHBOUR: 'it returns false'. Refute it at one input. -/
def linearNamesWrong : ChangeSpec := { name := "linearNames", fn := fun _ => fun
  | [] => { results := [.lit (.bool false)], args := [] }
  | _ => none }
def LinearNamesWrongFalsely : Prop := linearNamesRow.holds Try.pinned (OpenSpec.ofChange linearNamesWrong)

/-- 'butterylaw30.LinearChecks': WHATEVER THE INPUT: true; the input reads as it did. -/
def linearChecksSpec : ChangeSpec := { name := "linearChecks", fn := fun _ => fun
  | [d] => { results := [.lit (.bool true)], args := [d] }
  | _ => none }
def linearChecksRow : OpenClaim := { program := "ytajbagdgjbihjaa", sum := "4e617d52572c70304ffbb1294320b485b06044af3e3b5acdbc03976660986bd7", func := "buttery/butterylaw30.LinearChecks", spec := "linearChecks", inPlace := ["slices.overlaps[buttery/api.Pair]"], unfollowed := true, recurses := true, plainKeys := false, apart := false }
def LinearChecksSaid : Prop := linearChecksRow.holds Try.pinned (OpenSpec.ofChange linearChecksSpec)

/-- ITS FALSE NEIGHBOUR: 'it returns false'. Refute it at one input. -/
def linearChecksWrong : ChangeSpec := { name := "linearChecks", fn := fun _ => fun
  | [d] => { results := [.lit (.bool false)], args := [d] }
  | _ => none }
def LinearChecksWrongFalsely : Prop := linearChecksRow.holds Try.pinned (OpenSpec.ofChange linearChecksWrong)

/-- 'butterylaw30.LinearPlayed': WHATEVER THE INPUT: true; the input reads as it did. -/
def linearPlayedSpec : ChangeSpec := { name := "linearPlayed", fn := fun _ => fun
  | [d1, d2] => { results := [.lit (.bool true)], args := [d1, d2] }
  | _ => none }
def linearPlayedRow : OpenClaim := { program := "ytajbagdgjbihjaa", sum := "4e617d52572c70304ffbb1294320b485b06044af3e3b5acdbc03976660986bd7", func := "buttery/butterylaw30.LinearPlayed", spec := "linearPlayed", inPlace := ["slices.overlaps[buttery/api.Pair]"], unfollowed := true, recurses := true, plainKeys := false, apart := false }
def LinearPlayedSaid : Prop := linearPlayedRow.holds Try.pinned (OpenSpec.ofChange linearPlayedSpec)

/-- ITS FALSE NEIGHBOUR: 'it returns false'. Refute it at one input. -/
def linearPlayedWrong : ChangeSpec := { name := "linearPlayed", fn := fun _ => fun
  | [d1, d2] => { results := [.lit (.bool false)], args := [d1, d2] }
  | _ => none }
def LinearPlayedWrongFalsely : Prop := linearPlayedRow.holds Try.pinned (OpenSpec.ofChange linearPlayedWrong)

/-- 'butterylaw30.LinearTells': WHATEVER THE INPUT: true; the input reads as it did. -/
def linearTellsSpec : ChangeSpec := { name := "linearTells", fn := fun _ => fun
  | [d1, d2] => { results := [.lit (.bool true)], args := [d1, d2] }
  | _ => none }
def linearTellsRow : OpenClaim := { program := "ytajbagdgjbihjaa", sum := "4e617d52572c70304ffbb1294320b485b06044af3e3b5acdbc03976660986bd7", func := "buttery/butterylaw30.LinearTells", spec := "linearTells", inPlace := ["slices.overlaps[buttery/api.Pair]"], unfollowed := true, recurses := true, plainKeys := false, apart := false }
def LinearTellsSaid : Prop := linearTellsRow.holds Try.pinned (OpenSpec.ofChange linearTellsSpec)

/-- ITS FALSE NEIGHBOUR: 'it returns false'. Refute it at one input. -/
def linearTellsWrong : ChangeSpec := { name := "linearTells", fn := fun _ => fun
  | [d1, d2] => { results := [.lit (.bool false)], args := [d1, d2] }
  | _ => none }
def LinearTellsWrongFalsely : Prop := linearTellsRow.holds Try.pinned (OpenSpec.ofChange linearTellsWrong)

/-- 'butterylaw30.LinearKeys': WHATEVER THE INPUT: true; the input reads as it did. -/
def linearKeysSpec : ChangeSpec := { name := "linearKeys", fn := fun _ => fun
  | [d1, d2] => { results := [.lit (.bool true)], args := [d1, d2] }
  | _ => none }
def linearKeysRow : OpenClaim := { program := "ytajbagdgjbihjaa", sum := "4e617d52572c70304ffbb1294320b485b06044af3e3b5acdbc03976660986bd7", func := "buttery/butterylaw30.LinearKeys", spec := "linearKeys", unfollowed := true, recurses := true, plainKeys := false, apart := false }
def LinearKeysSaid : Prop := linearKeysRow.holds Try.pinned (OpenSpec.ofChange linearKeysSpec)

/-- ITS FALSE NEIGHBOUR: 'it returns false'. Refute it at one input. -/
def linearKeysWrong : ChangeSpec := { name := "linearKeys", fn := fun _ => fun
  | [d1, d2] => { results := [.lit (.bool false)], args := [d1, d2] }
  | _ => none }
def LinearKeysWrongFalsely : Prop := linearKeysRow.holds Try.pinned (OpenSpec.ofChange linearKeysWrong)

/-- 'butterylaw30.LinearKeyByKey': WHATEVER THE INPUT: true; the input reads as it did. -/
def linearKeyByKeySpec : ChangeSpec := { name := "linearKeyByKey", fn := fun _ => fun
  | [d] => { results := [.lit (.bool true)], args := [d] }
  | _ => none }
def linearKeyByKeyRow : OpenClaim := { program := "ytajbagdgjbihjaa", sum := "4e617d52572c70304ffbb1294320b485b06044af3e3b5acdbc03976660986bd7", func := "buttery/butterylaw30.LinearKeyByKey", spec := "linearKeyByKey", inPlace := ["slices.overlaps[buttery/api.Pair]"], unfollowed := true, recurses := true, plainKeys := false, apart := false }
def LinearKeyByKeySaid : Prop := linearKeyByKeyRow.holds Try.pinned (OpenSpec.ofChange linearKeyByKeySpec)

/-- ITS FALSE NEIGHBOUR: 'it returns false'. Refute it at one input. -/
def linearKeyByKeyWrong : ChangeSpec := { name := "linearKeyByKey", fn := fun _ => fun
  | [d] => { results := [.lit (.bool false)], args := [d] }
  | _ => none }
def LinearKeyByKeyWrongFalsely : Prop := linearKeyByKeyRow.holds Try.pinned (OpenSpec.ofChange linearKeyByKeyWrong)

/- THE SECOND FORM. 'bulk': how many values and letters a reading holds, each counted each time it is reached (what is shared counts as often as it is met; a slice's spare places count too). A statement '..UptoSaid' is the law's where the arguments, and the package variables that the reading takes, are together of bulk at most 1048576: NARROWER than '..Said'. Prove '..Said' where nothing that the law and all that it calls make is longer than what came in: it says more and counts as full. Else prove '..UptoSaid'. A law counts once. -/
mutual
def uptoBulk {H : Type} : DataW H → Nat
  | .lit (.string bytes) => bytes.length + 1
  | .lit _ => 1
  | .nil => 1
  | .ptr d => uptoBulk d + 1
  | .slice elems spare => uptoBulkAll elems + uptoBulkAll spare + 1
  | .agg parts => uptoBulkAll parts + 1
  | .iface _ d => uptoBulk d + 1
  | .map entries => uptoBulkEntries entries + 1
  | .held _ => 1
def uptoBulkAll {H : Type} : List (DataW H) → Nat
  | [] => 0
  | d :: r => uptoBulk d + uptoBulkAll r
def uptoBulkEntries {H : Type} : List (Lit × DataW H) → Nat
  | [] => 0
  | x :: r => uptoBulkEntry x + uptoBulkEntries r
def uptoBulkEntry {H : Type} : Lit × DataW H → Nat
  | (.string bytes, d) => bytes.length + uptoBulk d + 1
  | (_, d) => uptoBulk d + 1
 end
def uptoSmall : (H : Type) → List (DataW H) → Bool := fun _ ds => decide (uptoBulkAll ds ≤ 1048576)
def OpenSpec.upto (s : _root_.Go.ChangeSpec) : _root_.Go.OpenSpec := { _root_.Go.OpenSpec.ofChange s with cond := some uptoSmall }

/-- 'butterylaw30.LinearNames', WHERE WHAT IT READS IS OF BULK AT MOST 1048576: true; the input reads as it did. -/
def linearNamesUptoRow : OpenClaim := { program := "ytajbagdgjbihjaa", sum := "4e617d52572c70304ffbb1294320b485b06044af3e3b5acdbc03976660986bd7", func := "buttery/butterylaw30.LinearNames", spec := "linearNames", inPlace := ["slices.overlaps[buttery/api.Pair]"], unfollowed := true, recurses := true, plainKeys := false, apart := false, narrowed := true }
def LinearNamesUptoSaid : Prop := linearNamesUptoRow.holds Try.pinned (OpenSpec.upto linearNamesSpec)

/-- 'butterylaw30.LinearChecks', WHERE WHAT IT READS IS OF BULK AT MOST 1048576: true; the input reads as it did. -/
def linearChecksUptoRow : OpenClaim := { program := "ytajbagdgjbihjaa", sum := "4e617d52572c70304ffbb1294320b485b06044af3e3b5acdbc03976660986bd7", func := "buttery/butterylaw30.LinearChecks", spec := "linearChecks", inPlace := ["slices.overlaps[buttery/api.Pair]"], unfollowed := true, recurses := true, plainKeys := false, apart := false, narrowed := true }
def LinearChecksUptoSaid : Prop := linearChecksUptoRow.holds Try.pinned (OpenSpec.upto linearChecksSpec)

/-- 'butterylaw30.LinearPlayed', WHERE WHAT IT READS IS OF BULK AT MOST 1048576: true; the input reads as it did. -/
def linearPlayedUptoRow : OpenClaim := { program := "ytajbagdgjbihjaa", sum := "4e617d52572c70304ffbb1294320b485b06044af3e3b5acdbc03976660986bd7", func := "buttery/butterylaw30.LinearPlayed", spec := "linearPlayed", inPlace := ["slices.overlaps[buttery/api.Pair]"], unfollowed := true, recurses := true, plainKeys := false, apart := false, narrowed := true }
def LinearPlayedUptoSaid : Prop := linearPlayedUptoRow.holds Try.pinned (OpenSpec.upto linearPlayedSpec)

/-- 'butterylaw30.LinearTells', WHERE WHAT IT READS IS OF BULK AT MOST 1048576: true; the input reads as it did. -/
def linearTellsUptoRow : OpenClaim := { program := "ytajbagdgjbihjaa", sum := "4e617d52572c70304ffbb1294320b485b06044af3e3b5acdbc03976660986bd7", func := "buttery/butterylaw30.LinearTells", spec := "linearTells", inPlace := ["slices.overlaps[buttery/api.Pair]"], unfollowed := true, recurses := true, plainKeys := false, apart := false, narrowed := true }
def LinearTellsUptoSaid : Prop := linearTellsUptoRow.holds Try.pinned (OpenSpec.upto linearTellsSpec)

/-- 'butterylaw30.LinearKeys', WHERE WHAT IT READS IS OF BULK AT MOST 1048576: true; the input reads as it did. -/
def linearKeysUptoRow : OpenClaim := { program := "ytajbagdgjbihjaa", sum := "4e617d52572c70304ffbb1294320b485b06044af3e3b5acdbc03976660986bd7", func := "buttery/butterylaw30.LinearKeys", spec := "linearKeys", unfollowed := true, recurses := true, plainKeys := false, apart := false, narrowed := true }
def LinearKeysUptoSaid : Prop := linearKeysUptoRow.holds Try.pinned (OpenSpec.upto linearKeysSpec)

/-- 'butterylaw30.LinearKeyByKey', WHERE WHAT IT READS IS OF BULK AT MOST 1048576: true; the input reads as it did. -/
def linearKeyByKeyUptoRow : OpenClaim := { program := "ytajbagdgjbihjaa", sum := "4e617d52572c70304ffbb1294320b485b06044af3e3b5acdbc03976660986bd7", func := "buttery/butterylaw30.LinearKeyByKey", spec := "linearKeyByKey", inPlace := ["slices.overlaps[buttery/api.Pair]"], unfollowed := true, recurses := true, plainKeys := false, apart := false, narrowed := true }
def LinearKeyByKeyUptoSaid : Prop := linearKeyByKeyUptoRow.holds Try.pinned (OpenSpec.upto linearKeyByKeySpec)

end Rows
end Go.Proofs.Ytajbagdgjbihjaa
