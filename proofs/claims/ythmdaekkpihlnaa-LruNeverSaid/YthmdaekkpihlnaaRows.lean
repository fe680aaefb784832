/-
  No cell of these rows narrows 'for every input' (looked for: loops, veiled, ifaces, maps, wideKeys, modest, calm, conditions, laid).
  DERIVED. THE GIVEN ROWS OF THIS SEAT. 4 by the template 'for every input the law returns true; each argument reads behind the call as it read before'; 0 by the template 'total and deterministic' (their statements: YthmdaekkpihlnaaTotals.lean).
  GIVEN WITH THE SEED: the statements are not yours to turn. If you find one false, say at which input.
  Laid BY PROGRAM, IN A SANDBOX (cutbox-rows.mjs): the forced cells as the released guide's own fill.sh prints them over the translation eda2987a24f82949… (all of the seat's roots in one cut). By AI agents, Wed Nov 11 2026. No macro, syntax, notation, axiom, sorry.
-/
import Derived.Test.YthmdaekkpihlnaaChecked
import GoSem.Claim
import GoSem.ClaimJoined
import GoSem.ClaimMapViews
import Derived.JoinedTies
import Derived.KernelRfl
namespace Go.Proofs.Ythmdaekkpihlnaa
/- THE CELL 'sum', in the pinned program and in every row, IS THE sha256 OF THE DUMP (.gsa) THAT YthmdaekkpihlnaaProg.lean LOADS. Nothing in Lean hashes anything: it is a label: what it is worth is what the hold of that sum in a sandbox is worth. -/
noncomputable def Try.pinned : Pinned := { name := "ythmdaekkpihlnaa", sum := "eda2987a24f8294966c9d49a823ecc16d18fffa1a955b6cc5414e3ab835f767e", checked := Try.checked }
namespace Rows
def none {H : Type} : Left H := { results := [], args := [] }

/-- 'butterylaw21.LruStays': WHATEVER THE INPUT: true; the input reads as it did. -/
def lruStaysSpec : ChangeSpec := { name := "lruStays", fn := fun _ => fun
  | [d1, d2, d3] => { results := [.lit (.bool true)], args := [d1, d2, d3] }
  | _ => none }
def lruStaysRow : OpenClaim := { program := "ythmdaekkpihlnaa", sum := "eda2987a24f8294966c9d49a823ecc16d18fffa1a955b6cc5414e3ab835f767e", func := "buttery/butterylaw21.LruStays", spec := "lruStays", unfollowed := true, recurses := true, apart := false }
def LruStaysSaid : Prop := lruStaysRow.holds Try.pinned (OpenSpec.ofChange lruStaysSpec)

/-- ITS FALSE NEIGHBOUR: 'it returns false'. Refute it at one input. -/
def lruStaysWrong : ChangeSpec := { name := "lruStays", fn := fun _ => fun
  | [d1, d2, d3] => { results := [.lit (.bool false)], args := [d1, d2, d3] }
  | _ => none }
def LruStaysWrongFalsely : Prop := lruStaysRow.holds Try.pinned (OpenSpec.ofChange lruStaysWrong)

/-- 'butterylaw21.LruNames': WHATEVER THE INPUT: true; the input reads as it did. -/
def lruNamesSpec : ChangeSpec := { name := "lruNames", fn := fun _ => fun
  | [] => { results := [.lit (.bool true)], args := [] }
  | _ => none }
def lruNamesRow : OpenClaim := { program := "ythmdaekkpihlnaa", sum := "eda2987a24f8294966c9d49a823ecc16d18fffa1a955b6cc5414e3ab835f767e", func := "buttery/butterylaw21.LruNames", spec := "lruNames", unfollowed := true, recurses := true, apart := false }
def LruNamesSaid : Prop := lruNamesRow.holds Try.pinned (OpenSpec.ofChange lruNamesSpec)

/-- ITS FALSE NEIGHBOUR: 'it returns false'. Refute it at one input. -/
def lruNamesWrong : ChangeSpec := { name := "lruNames", fn := fun _ => fun
  | [] => { results := [.lit (.bool false)], args := [] }
  | _ => none }
def LruNamesWrongFalsely : Prop := lruNamesRow.holds Try.pinned (OpenSpec.ofChange lruNamesWrong)

/-- 'butterylaw21.LruPlays': WHATEVER THE INPUT: true; the input reads as it did. -/
def lruPlaysSpec : ChangeSpec := { name := "lruPlays", fn := fun _ => fun
  | [d1, d2, d3] => { results := [.lit (.bool true)], args := [d1, d2, d3] }
  | _ => none }
def lruPlaysRow : OpenClaim := { program := "ythmdaekkpihlnaa", sum := "eda2987a24f8294966c9d49a823ecc16d18fffa1a955b6cc5414e3ab835f767e", func := "buttery/butterylaw21.LruPlays", spec := "lruPlays", unfollowed := true, recurses := true, apart := false }
def LruPlaysSaid : Prop := lruPlaysRow.holds Try.pinned (OpenSpec.ofChange lruPlaysSpec)

/-- ITS FALSE NEIGHBOUR: 'it returns false'. Refute it at one input. -/
def lruPlaysWrong : ChangeSpec := { name := "lruPlays", fn := fun _ => fun
  | [d1, d2, d3] => { results := [.lit (.bool false)], args := [d1, d2, d3] }
  | _ => none }
def LruPlaysWrongFalsely : Prop := lruPlaysRow.holds Try.pinned (OpenSpec.ofChange lruPlaysWrong)

/-- 'butterylaw21.LruNever': WHATEVER THE INPUT: true; the input reads as it did. -/
def lruNeverSpec : ChangeSpec := { name := "lruNever", fn := fun _ => fun
  | [d1, d2, d3] => { results := [.lit (.bool true)], args := [d1, d2, d3] }
  | _ => none }
def lruNeverRow : OpenClaim := { program := "ythmdaekkpihlnaa", sum := "eda2987a24f8294966c9d49a823ecc16d18fffa1a955b6cc5414e3ab835f767e", func := "buttery/butterylaw21.LruNever", spec := "lruNever", unfollowed := true, recurses := true, apart := false }
def LruNeverSaid : Prop := lruNeverRow.holds Try.pinned (OpenSpec.ofChange lruNeverSpec)

/-- ITS FALSE NEIGHBOUR: 'it returns false'. Refute it at one input. -/
def lruNeverWrong : ChangeSpec := { name := "lruNever", fn := fun _ => fun
  | [d1, d2, d3] => { results := [.lit (.bool false)], args := [d1, d2, d3] }
  | _ => none }
def LruNeverWrongFalsely : Prop := lruNeverRow.holds Try.pinned (OpenSpec.ofChange lruNeverWrong)

/- THE SECOND FORM. 'bulk': how many values and letters a reading holds, each counted each time it is reached (what is shared counts as often as it is met; a slice's spare places count too). A statement '..UptoSaid' is the law's where the arguments, and the package variables that the reading takes, are together of bulk at most 1048576: NARROWER than '..Said'. Prove '..Said' where nothing that the law and all that it calls make is longer than what came in: it says more and counts as full. Else prove '..UptoSaid'. A law counts once. -/
mutual
def uptoBulk {H : Type} : DataW H → Nat
  | .lit (.string bytes) => bytes.length + 1
  | .lit _ => 1
  | .nil => 1
  | .ptr d => uptoBulk d + 1
  | .slice elems spare => uptoBulkAll elems + uptoBulkAll spare + 1
  | .agg parts => uptoBulkAll parts + 1
  | .iface _ d => uptoBulk d + 1
  | .map entries => uptoBulkEntries entries + 1
  | .held _ => 1
def uptoBulkAll {H : Type} : List (DataW H) → Nat
  | [] => 0
  | d :: r => uptoBulk d + uptoBulkAll r
def uptoBulkEntries {H : Type} : List (Lit × DataW H) → Nat
  | [] => 0
  | x :: r => uptoBulkEntry x + uptoBulkEntries r
def uptoBulkEntry {H : Type} : Lit × DataW H → Nat
  | (.string bytes, d) => bytes.length + uptoBulk d + 1
  | (_, d) => uptoBulk d + 1
 end
def uptoSmall : (H : Type) → List (DataW H) → Bool := fun _ ds => decide (uptoBulkAll ds ≤ 1048576)
def OpenSpec.upto (s : _root_.Go.ChangeSpec) : _root_.Go.OpenSpec := { _root_.Go.OpenSpec.ofChange s with cond := some uptoSmall }

/-- 'butterylaw21.LruStays', WHERE WHAT IT READS IS OF BULK AT MOST 1048576: true; the input reads as it did. -/
def lruStaysUptoRow : OpenClaim := { program := "ythmdaekkpihlnaa", sum := "eda2987a24f8294966c9d49a823ecc16d18fffa1a955b6cc5414e3ab835f767e", func := "buttery/butterylaw21.LruStays", spec := "lruStays", unfollowed := true, recurses := true, apart := false, narrowed := true }
def LruStaysUptoSaid : Prop := lruStaysUptoRow.holds Try.pinned (OpenSpec.upto lruStaysSpec)

/-- 'butterylaw21.LruNames', WHERE WHAT IT READS IS OF BULK AT MOST 1048576: true; the input reads as it did. -/
def lruNamesUptoRow : OpenClaim := { program := "ythmdaekkpihlnaa", sum := "eda2987a24f8294966c9d49a823ecc16d18fffa1a955b6cc5414e3ab835f767e", func := "buttery/butterylaw21.LruNames", spec := "lruNames", unfollowed := true, recurses := true, apart := false, narrowed := true }
def LruNamesUptoSaid : Prop := lruNamesUptoRow.holds Try.pinned (OpenSpec.upto lruNamesSpec)

/-- 'butterylaw21.LruPlays', WHERE WHAT IT READS IS OF BULK AT MOST 1048576: true; the input reads as it did. -/
def lruPlaysUptoRow : OpenClaim := { program := "ythmdaekkpihlnaa", sum := "eda2987a24f8294966c9d49a823ecc16d18fffa1a955b6cc5414e3ab835f767e", func := "buttery/butterylaw21.LruPlays", spec := "lruPlays", unfollowed := true, recurses := true, apart := false, narrowed := true }
def LruPlaysUptoSaid : Prop := lruPlaysUptoRow.holds Try.pinned (OpenSpec.upto lruPlaysSpec)

/-- 'butterylaw21.LruNever', WHERE WHAT IT READS IS OF BULK AT MOST 1048576: true; the input reads as it did. -/
def lruNeverUptoRow : OpenClaim := { program := "ythmdaekkpihlnaa", sum := "eda2987a24f8294966c9d49a823ecc16d18fffa1a955b6cc5414e3ab835f767e", func := "buttery/butterylaw21.LruNever", spec := "lruNever", unfollowed := true, recurses := true, apart := false, narrowed := true }
def LruNeverUptoSaid : Prop := lruNeverUptoRow.holds Try.pinned (OpenSpec.upto lruNeverSpec)

end Rows
end Go.Proofs.Ythmdaekkpihlnaa
