/-
  No cell of these rows narrows 'for every input' (looked for: loops, veiled, ifaces, maps, wideKeys, modest, calm, conditions, laid).
  DERIVED. THE GIVEN ROWS OF THIS SEAT. 4 by the template 'for every input the law returns true; each argument reads behind the call as it read before'; 0 by the template 'total and deterministic' (their statements: YtfjfpnlcmjpofaaTotals.lean).
  GIVEN WITH THE SEED: the statements are not yours to turn. If you find one false, say at which input.
  Laid BY PROGRAM, IN A SANDBOX (cutbox-rows.mjs): the forced cells as the released guide's own fill.sh prints them over the translation b2f0d10e577966d9… (all of the seat's roots in one cut). By AI agents, Wed Nov 11 2026. No macro, syntax, notation, axiom, sorry.
-/
import Derived.Test.YtfjfpnlcmjpofaaChecked
import GoSem.Claim
import GoSem.ClaimJoined
import GoSem.ClaimMapViews
import Derived.JoinedTies
import Derived.KernelRfl
namespace Go.Proofs.Ytfjfpnlcmjpofaa
/- THE CELL 'sum', in the pinned program and in every row, IS THE sha256 OF THE DUMP (.gsa) THAT YtfjfpnlcmjpofaaProg.lean LOADS. Nothing in Lean hashes anything: it is a label: what it is worth is what the hold of that sum in a sandbox is worth. -/
noncomputable def Try.pinned : Pinned := { name := "ytfjfpnlcmjpofaa", sum := "b2f0d10e577966d9727e75fee4cd4997df5989dec0addb7abdcf42eea6d6f32b", checked := Try.checked }
namespace Rows
def none {H : Type} : Left H := { results := [], args := [] }

/-- 'butterylaw20.LeaseUnlike': WHATEVER THE INPUT: true; the input reads as it did. -/
def leaseUnlikeSpec : ChangeSpec := { name := "leaseUnlike", fn := fun _ => fun
  | [d1, d2, d3, d4] => { results := [.lit (.bool true)], args := [d1, d2, d3, d4] }
  | _ => none }
def leaseUnlikeRow : OpenClaim := { program := "ytfjfpnlcmjpofaa", sum := "b2f0d10e577966d9727e75fee4cd4997df5989dec0addb7abdcf42eea6d6f32b", func := "buttery/butterylaw20.LeaseUnlike", spec := "leaseUnlike", unfollowed := true, recurses := true, plainKeys := false, apart := false }
def LeaseUnlikeSaid : Prop := leaseUnlikeRow.holds Try.pinned (OpenSpec.ofChange leaseUnlikeSpec)

/-- ITS FALSE NEIGHBOUR: 'it returns false'. Refute it at one input. -/
def leaseUnlikeWrong : ChangeSpec := { name := "leaseUnlike", fn := fun _ => fun
  | [d1, d2, d3, d4] => { results := [.lit (.bool false)], args := [d1, d2, d3, d4] }
  | _ => none }
def LeaseUnlikeWrongFalsely : Prop := leaseUnlikeRow.holds Try.pinned (OpenSpec.ofChange leaseUnlikeWrong)

/-- 'butterylaw20.LeasePlays': WHATEVER THE INPUT: true; the input reads as it did. -/
def leasePlaysSpec : ChangeSpec := { name := "leasePlays", fn := fun _ => fun
  | [d1, d2, d3, d4] => { results := [.lit (.bool true)], args := [d1, d2, d3, d4] }
  | _ => none }
def leasePlaysRow : OpenClaim := { program := "ytfjfpnlcmjpofaa", sum := "b2f0d10e577966d9727e75fee4cd4997df5989dec0addb7abdcf42eea6d6f32b", func := "buttery/butterylaw20.LeasePlays", spec := "leasePlays", unfollowed := true, recurses := true, plainKeys := false, apart := false }
def LeasePlaysSaid : Prop := leasePlaysRow.holds Try.pinned (OpenSpec.ofChange leasePlaysSpec)

/-- ITS FALSE NEIGHBOUR: 'it returns false'. Refute it at one input. -/
def leasePlaysWrong : ChangeSpec := { name := "leasePlays", fn := fun _ => fun
  | [d1, d2, d3, d4] => { results := [.lit (.bool false)], args := [d1, d2, d3, d4] }
  | _ => none }
def LeasePlaysWrongFalsely : Prop := leasePlaysRow.holds Try.pinned (OpenSpec.ofChange leasePlaysWrong)

/-- 'butterylaw20.LeaseNames': WHATEVER THE INPUT: true; the input reads as it did. -/
def leaseNamesSpec : ChangeSpec := { name := "leaseNames", fn := fun _ => fun
  | [] => { results := [.lit (.bool true)], args := [] }
  | _ => none }
def leaseNamesRow : OpenClaim := { program := "ytfjfpnlcmjpofaa", sum := "b2f0d10e577966d9727e75fee4cd4997df5989dec0addb7abdcf42eea6d6f32b", func := "buttery/butterylaw20.LeaseNames", spec := "leaseNames", unfollowed := true, recurses := true, plainKeys := false, apart := false }
def LeaseNamesSaid : Prop := leaseNamesRow.holds Try.pinned (OpenSpec.ofChange leaseNamesSpec)

/-- ITS FALSE NEIGHBOUR: 'it returns false'. Refute it at one input. -/
def leaseNamesWrong : ChangeSpec := { name := "leaseNames", fn := fun _ => fun
  | [] => { results := [.lit (.bool false)], args := [] }
  | _ => none }
def LeaseNamesWrongFalsely : Prop := leaseNamesRow.holds Try.pinned (OpenSpec.ofChange leaseNamesWrong)

/-- 'butterylaw20.LeaseKept': WHATEVER THE INPUT: true; the input reads as it did. -/
def leaseKeptSpec : ChangeSpec := { name := "leaseKept", fn := fun _ => fun
  | [d1, d2, d3, d4] => { results := [.lit (.bool true)], args := [d1, d2, d3, d4] }
  | _ => none }
def leaseKeptRow : OpenClaim := { program := "ytfjfpnlcmjpofaa", sum := "b2f0d10e577966d9727e75fee4cd4997df5989dec0addb7abdcf42eea6d6f32b", func := "buttery/butterylaw20.LeaseKept", spec := "leaseKept", unfollowed := true, recurses := true, plainKeys := false, apart := false }
def LeaseKeptSaid : Prop := leaseKeptRow.holds Try.pinned (OpenSpec.ofChange leaseKeptSpec)

/-- ITS FALSE NEIGHBOUR: 'it returns false'. Refute it at one input. -/
def leaseKeptWrong : ChangeSpec := { name := "leaseKept", fn := fun _ => fun
  | [d1, d2, d3, d4] => { results := [.lit (.bool false)], args := [d1, d2, d3, d4] }
  | _ => none }
def LeaseKeptWrongFalsely : Prop := leaseKeptRow.holds Try.pinned (OpenSpec.ofChange leaseKeptWrong)

/- THE SECOND FORM. 'bulk': how many values and letters a reading holds, each counted each time it is reached (what is shared counts as often as it is met; a slice's spare places count too). A statement '..UptoSaid' is the law's where the arguments, and the package variables that the reading takes, are together of bulk at most 1048576: NARROWER than '..Said'. Prove '..Said' where nothing that the law and all that it calls make is longer than what came in: it says more and counts as full. Else prove '..UptoSaid'. A law counts once. -/
mutual
def uptoBulk {H : Type} : DataW H → Nat
  | .lit (.string bytes) => bytes.length + 1
  | .lit _ => 1
  | .nil => 1
  | .ptr d => uptoBulk d + 1
  | .slice elems spare => uptoBulkAll elems + uptoBulkAll spare + 1
  | .agg parts => uptoBulkAll parts + 1
  | .iface _ d => uptoBulk d + 1
  | .map entries => uptoBulkEntries entries + 1
  | .held _ => 1
def uptoBulkAll {H : Type} : List (DataW H) → Nat
  | [] => 0
  | d :: r => uptoBulk d + uptoBulkAll r
def uptoBulkEntries {H : Type} : List (Lit × DataW H) → Nat
  | [] => 0
  | x :: r => uptoBulkEntry x + uptoBulkEntries r
def uptoBulkEntry {H : Type} : Lit × DataW H → Nat
  | (.string bytes, d) => bytes.length + uptoBulk d + 1
  | (_, d) => uptoBulk d + 1
 end
def uptoSmall : (H : Type) → List (DataW H) → Bool := fun _ ds => decide (uptoBulkAll ds ≤ 1048576)
def OpenSpec.upto (s : _root_.Go.ChangeSpec) : _root_.Go.OpenSpec := { _root_.Go.OpenSpec.ofChange s with cond := some uptoSmall }

/-- 'butterylaw20.LeaseUnlike', WHERE WHAT IT READS IS OF BULK AT MOST 1048576: true; the input reads as it did. -/
def leaseUnlikeUptoRow : OpenClaim := { program := "ytfjfpnlcmjpofaa", sum := "b2f0d10e577966d9727e75fee4cd4997df5989dec0addb7abdcf42eea6d6f32b", func := "buttery/butterylaw20.LeaseUnlike", spec := "leaseUnlike", unfollowed := true, recurses := true, plainKeys := false, apart := false, narrowed := true }
def LeaseUnlikeUptoSaid : Prop := leaseUnlikeUptoRow.holds Try.pinned (OpenSpec.upto leaseUnlikeSpec)

/-- 'butterylaw20.LeasePlays', WHERE WHAT IT READS IS OF BULK AT MOST 1048576: true; the input reads as it did. -/
def leasePlaysUptoRow : OpenClaim := { program := "ytfjfpnlcmjpofaa", sum := "b2f0d10e577966d9727e75fee4cd4997df5989dec0addb7abdcf42eea6d6f32b", func := "buttery/butterylaw20.LeasePlays", spec := "leasePlays", unfollowed := true, recurses := true, plainKeys := false, apart := false, narrowed := true }
def LeasePlaysUptoSaid : Prop := leasePlaysUptoRow.holds Try.pinned (OpenSpec.upto leasePlaysSpec)

/-- 'butterylaw20.LeaseNames', WHERE WHAT IT READS IS OF BULK AT MOST 1048576: true; the input reads as it did. -/
def leaseNamesUptoRow : OpenClaim := { program := "ytfjfpnlcmjpofaa", sum := "b2f0d10e577966d9727e75fee4cd4997df5989dec0addb7abdcf42eea6d6f32b", func := "buttery/butterylaw20.LeaseNames", spec := "leaseNames", unfollowed := true, recurses := true, plainKeys := false, apart := false, narrowed := true }
def LeaseNamesUptoSaid : Prop := leaseNamesUptoRow.holds Try.pinned (OpenSpec.upto leaseNamesSpec)

/-- 'butterylaw20.LeaseKept', WHERE WHAT IT READS IS OF BULK AT MOST 1048576: true; the input reads as it did. -/
def leaseKeptUptoRow : OpenClaim := { program := "ytfjfpnlcmjpofaa", sum := "b2f0d10e577966d9727e75fee4cd4997df5989dec0addb7abdcf42eea6d6f32b", func := "buttery/butterylaw20.LeaseKept", spec := "leaseKept", unfollowed := true, recurses := true, plainKeys := false, apart := false, narrowed := true }
def LeaseKeptUptoSaid : Prop := leaseKeptUptoRow.holds Try.pinned (OpenSpec.upto leaseKeptSpec)

end Rows
end Go.Proofs.Ytfjfpnlcmjpofaa
