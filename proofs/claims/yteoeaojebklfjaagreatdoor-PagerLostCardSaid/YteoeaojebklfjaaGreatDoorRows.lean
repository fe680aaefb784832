/-
  NARROWER THAN 'FOR EVERY INPUT', by the rows' own cells (each row's printed sentence says how): PagerMany: laid · PagerApart: laid · PagerPlays: laid · PagerLost: laid · PagerTorn: laid · PagerCrashes: laid.
  DERIVED. THE GIVEN ROWS OF THIS SEAT. 6 by the template 'for every input the law returns true; each argument reads behind the call as it read before'; 0 by the template 'total and deterministic' (their statements: YteoeaojebklfjaaGreatDoorTotals.lean).
  GIVEN WITH THE SEED: the statements are not yours to turn. If you find one false, say at which input.
  Laid BY PROGRAM, IN A SANDBOX (cutbox-rows.mjs): the forced cells as the released guide's own fill.sh prints them over the translation b5bca79a1492ff77… (all of the seat's roots in one cut). By AI agents, Wed Nov 11 2026. No macro, syntax, notation, axiom, sorry.
-/
import Derived.Test.YteoeaojebklfjaaGreatDoorChecked
import GoSem.PinnedTables
import GoSem.Claim
import GoSem.ClaimJoined
import GoSem.ClaimMapViews
import Derived.JoinedTies
import Derived.KernelRfl
namespace Go.Proofs.YteoeaojebklfjaaGreatDoor
/- THE CELL 'sum', in the pinned program and in every row, IS THE sha256 OF THE DUMP (.gsa) THAT YteoeaojebklfjaaGreatDoorProg.lean LOADS. Nothing in Lean hashes anything: it is a label: what it is worth is what the hold of that sum in a sandbox is worth. -/
noncomputable def Tryz.pinned : Pinned := { name := "yteoeaojebklfjaagreatdoor", sum := "b5bca79a1492ff77d271a4bebf2a901930e25f3b349c2b2d51ef66c5cd45b51d", checked := Tryz.checked }
namespace Rows
def none {H : Type} : Left H := { results := [], args := [] }

/- WHAT THE LISTED PACKAGE-LEVEL VARIABLES READ AS WHEN THE CALL BEGINS. Each datum BY PROGRAM (the guide's laid-datum.mjs) off the statement by which the dump's own 'gosem.cut.vars' lays the variable. In a bare row this is a premise. The card (YteoeaojebklfjaaGreatDoorCards.lean) ties it to the program's text. -/
def laid_unicode_utf8_acceptRanges {H : Type} : DataW H := .agg [.agg [.lit (.int .u8 128), .lit (.int .u8 191)], .agg [.lit (.int .u8 160), .lit (.int .u8 191)], .agg [.lit (.int .u8 128), .lit (.int .u8 159)], .agg [.lit (.int .u8 144), .lit (.int .u8 191)], .agg [.lit (.int .u8 128), .lit (.int .u8 143)], .agg [.lit (.int .u8 0), .lit (.int .u8 0)], .agg [.lit (.int .u8 0), .lit (.int .u8 0)], .agg [.lit (.int .u8 0), .lit (.int .u8 0)], .agg [.lit (.int .u8 0), .lit (.int .u8 0)], .agg [.lit (.int .u8 0), .lit (.int .u8 0)], .agg [.lit (.int .u8 0), .lit (.int .u8 0)], .agg [.lit (.int .u8 0), .lit (.int .u8 0)], .agg [.lit (.int .u8 0), .lit (.int .u8 0)], .agg [.lit (.int .u8 0), .lit (.int .u8 0)], .agg [.lit (.int .u8 0), .lit (.int .u8 0)], .agg [.lit (.int .u8 0), .lit (.int .u8 0)]]
/-- One of Go's own tables, pinned by name: the form's constant. -/
def laid_unicode_utf8_first : DataW Unit := Go.Pinned.utf8First

/-- 'butterylaw05.PagerMany': WHATEVER THE INPUT: true; the input reads as it did. -/
def pagerManySpec : ChangeSpec := { name := "pagerMany", fn := fun _ => fun
  | [d1, d2, d3, d4] => { results := [.lit (.bool true)], args := [d1, d2, d3, d4] }
  | _ => none }
def pagerManyRow : OpenClaim := { program := "yteoeaojebklfjaagreatdoor", sum := "b5bca79a1492ff77d271a4bebf2a901930e25f3b349c2b2d51ef66c5cd45b51d", func := "buttery/butterylaw05.PagerMany", spec := "pagerMany", unfollowed := true, recurses := true, named := ["unicode/utf8.first", "unicode/utf8.acceptRanges"], apart := false, laid := [("unicode/utf8.acceptRanges", laid_unicode_utf8_acceptRanges), ("unicode/utf8.first", laid_unicode_utf8_first)] }
def PagerManySaid : Prop := pagerManyRow.holds Tryz.pinned (OpenSpec.ofChange pagerManySpec)

/-- ITS FALSE NEIGHBOUR: 'it returns false'. Refute it at one input. -/
def pagerManyWrong : ChangeSpec := { name := "pagerMany", fn := fun _ => fun
  | [d1, d2, d3, d4] => { results := [.lit (.bool false)], args := [d1, d2, d3, d4] }
  | _ => none }
def PagerManyWrongFalsely : Prop := pagerManyRow.holds Tryz.pinned (OpenSpec.ofChange pagerManyWrong)

/-- 'butterylaw05.PagerApart': WHATEVER THE INPUT: true; the input reads as it did. -/
def pagerApartSpec : ChangeSpec := { name := "pagerApart", fn := fun _ => fun
  | [d1, d2, d3] => { results := [.lit (.bool true)], args := [d1, d2, d3] }
  | _ => none }
def pagerApartRow : OpenClaim := { program := "yteoeaojebklfjaagreatdoor", sum := "b5bca79a1492ff77d271a4bebf2a901930e25f3b349c2b2d51ef66c5cd45b51d", func := "buttery/butterylaw05.PagerApart", spec := "pagerApart", unfollowed := true, recurses := true, named := ["unicode/utf8.first", "unicode/utf8.acceptRanges"], apart := false, laid := [("unicode/utf8.acceptRanges", laid_unicode_utf8_acceptRanges), ("unicode/utf8.first", laid_unicode_utf8_first)] }
def PagerApartSaid : Prop := pagerApartRow.holds Tryz.pinned (OpenSpec.ofChange pagerApartSpec)

/-- ITS FALSE NEIGHBOUR: 'it returns false'. Refute it at one input. -/
def pagerApartWrong : ChangeSpec := { name := "pagerApart", fn := fun _ => fun
  | [d1, d2, d3] => { results := [.lit (.bool false)], args := [d1, d2, d3] }
  | _ => none }
def PagerApartWrongFalsely : Prop := pagerApartRow.holds Tryz.pinned (OpenSpec.ofChange pagerApartWrong)

/-- 'butterylaw05.PagerPlays': WHATEVER THE INPUT: true; the input reads as it did. -/
def pagerPlaysSpec : ChangeSpec := { name := "pagerPlays", fn := fun _ => fun
  | [d1, d2] => { results := [.lit (.bool true)], args := [d1, d2] }
  | _ => none }
def pagerPlaysRow : OpenClaim := { program := "yteoeaojebklfjaagreatdoor", sum := "b5bca79a1492ff77d271a4bebf2a901930e25f3b349c2b2d51ef66c5cd45b51d", func := "buttery/butterylaw05.PagerPlays", spec := "pagerPlays", unfollowed := true, recurses := true, named := ["unicode/utf8.first", "unicode/utf8.acceptRanges"], apart := false, laid := [("unicode/utf8.acceptRanges", laid_unicode_utf8_acceptRanges), ("unicode/utf8.first", laid_unicode_utf8_first)] }
def PagerPlaysSaid : Prop := pagerPlaysRow.holds Tryz.pinned (OpenSpec.ofChange pagerPlaysSpec)

/-- ITS FALSE NEIGHBOUR: 'it returns false'. Refute it at one input. -/
def pagerPlaysWrong : ChangeSpec := { name := "pagerPlays", fn := fun _ => fun
  | [d1, d2] => { results := [.lit (.bool false)], args := [d1, d2] }
  | _ => none }
def PagerPlaysWrongFalsely : Prop := pagerPlaysRow.holds Tryz.pinned (OpenSpec.ofChange pagerPlaysWrong)

/-- 'butterylaw05.PagerLost': WHATEVER THE INPUT: true; the input reads as it did. -/
def pagerLostSpec : ChangeSpec := { name := "pagerLost", fn := fun _ => fun
  | [d1, d2, d3, d4, d5] => { results := [.lit (.bool true)], args := [d1, d2, d3, d4, d5] }
  | _ => none }
def pagerLostRow : OpenClaim := { program := "yteoeaojebklfjaagreatdoor", sum := "b5bca79a1492ff77d271a4bebf2a901930e25f3b349c2b2d51ef66c5cd45b51d", func := "buttery/butterylaw05.PagerLost", spec := "pagerLost", unfollowed := true, recurses := true, named := ["unicode/utf8.first", "unicode/utf8.acceptRanges"], apart := false, laid := [("unicode/utf8.acceptRanges", laid_unicode_utf8_acceptRanges), ("unicode/utf8.first", laid_unicode_utf8_first)] }
def PagerLostSaid : Prop := pagerLostRow.holds Tryz.pinned (OpenSpec.ofChange pagerLostSpec)

/-- ITS FALSE NEIGHBOUR: 'it returns false'. Refute it at one input. -/
def pagerLostWrong : ChangeSpec := { name := "pagerLost", fn := fun _ => fun
  | [d1, d2, d3, d4, d5] => { results := [.lit (.bool false)], args := [d1, d2, d3, d4, d5] }
  | _ => none }
def PagerLostWrongFalsely : Prop := pagerLostRow.holds Tryz.pinned (OpenSpec.ofChange pagerLostWrong)

/-- 'butterylaw05.PagerTorn': WHATEVER THE INPUT: true; the input reads as it did. -/
def pagerTornSpec : ChangeSpec := { name := "pagerTorn", fn := fun _ => fun
  | [d1, d2, d3] => { results := [.lit (.bool true)], args := [d1, d2, d3] }
  | _ => none }
def pagerTornRow : OpenClaim := { program := "yteoeaojebklfjaagreatdoor", sum := "b5bca79a1492ff77d271a4bebf2a901930e25f3b349c2b2d51ef66c5cd45b51d", func := "buttery/butterylaw05.PagerTorn", spec := "pagerTorn", unfollowed := true, recurses := true, named := ["unicode/utf8.first", "unicode/utf8.acceptRanges"], apart := false, laid := [("unicode/utf8.acceptRanges", laid_unicode_utf8_acceptRanges), ("unicode/utf8.first", laid_unicode_utf8_first)] }
def PagerTornSaid : Prop := pagerTornRow.holds Tryz.pinned (OpenSpec.ofChange pagerTornSpec)

/-- ITS FALSE NEIGHBOUR: 'it returns false'. Refute it at one input. -/
def pagerTornWrong : ChangeSpec := { name := "pagerTorn", fn := fun _ => fun
  | [d1, d2, d3] => { results := [.lit (.bool false)], args := [d1, d2, d3] }
  | _ => none }
def PagerTornWrongFalsely : Prop := pagerTornRow.holds Tryz.pinned (OpenSpec.ofChange pagerTornWrong)

/-- 'butterylaw05.PagerCrashes': WHATEVER THE INPUT: true; the input reads as it did. -/
def pagerCrashesSpec : ChangeSpec := { name := "pagerCrashes", fn := fun _ => fun
  | [d1, d2, d3, d4, d5, d6, d7] => { results := [.lit (.bool true)], args := [d1, d2, d3, d4, d5, d6, d7] }
  | _ => none }
def pagerCrashesRow : OpenClaim := { program := "yteoeaojebklfjaagreatdoor", sum := "b5bca79a1492ff77d271a4bebf2a901930e25f3b349c2b2d51ef66c5cd45b51d", func := "buttery/butterylaw05.PagerCrashes", spec := "pagerCrashes", unfollowed := true, recurses := true, named := ["unicode/utf8.first", "unicode/utf8.acceptRanges"], apart := false, laid := [("unicode/utf8.acceptRanges", laid_unicode_utf8_acceptRanges), ("unicode/utf8.first", laid_unicode_utf8_first)] }
def PagerCrashesSaid : Prop := pagerCrashesRow.holds Tryz.pinned (OpenSpec.ofChange pagerCrashesSpec)

/-- ITS FALSE NEIGHBOUR: 'it returns false'. Refute it at one input. -/
def pagerCrashesWrong : ChangeSpec := { name := "pagerCrashes", fn := fun _ => fun
  | [d1, d2, d3, d4, d5, d6, d7] => { results := [.lit (.bool false)], args := [d1, d2, d3, d4, d5, d6, d7] }
  | _ => none }
def PagerCrashesWrongFalsely : Prop := pagerCrashesRow.holds Tryz.pinned (OpenSpec.ofChange pagerCrashesWrong)

/- THE SECOND FORM. 'bulk': how many values and letters a reading holds, each counted each time it is reached (what is shared counts as often as it is met; a slice's spare places count too). A statement '..UptoSaid' is the law's where the arguments, and the package variables that the reading takes, are together of bulk at most 1048576: NARROWER than '..Said'. Prove '..Said' where nothing that the law and all that it calls make is longer than what came in: it says more and counts as full. Else prove '..UptoSaid'. A law counts once. -/
mutual
def uptoBulk {H : Type} : DataW H → Nat
  | .lit (.string bytes) => bytes.length + 1
  | .lit _ => 1
  | .nil => 1
  | .ptr d => uptoBulk d + 1
  | .slice elems spare => uptoBulkAll elems + uptoBulkAll spare + 1
  | .agg parts => uptoBulkAll parts + 1
  | .iface _ d => uptoBulk d + 1
  | .map entries => uptoBulkEntries entries + 1
  | .held _ => 1
def uptoBulkAll {H : Type} : List (DataW H) → Nat
  | [] => 0
  | d :: r => uptoBulk d + uptoBulkAll r
def uptoBulkEntries {H : Type} : List (Lit × DataW H) → Nat
  | [] => 0
  | x :: r => uptoBulkEntry x + uptoBulkEntries r
def uptoBulkEntry {H : Type} : Lit × DataW H → Nat
  | (.string bytes, d) => bytes.length + uptoBulk d + 1
  | (_, d) => uptoBulk d + 1
 end
def uptoSmall : (H : Type) → List (DataW H) → Bool := fun _ ds => decide (uptoBulkAll ds ≤ 1048576)
def OpenSpec.upto (s : _root_.Go.ChangeSpec) : _root_.Go.OpenSpec := { _root_.Go.OpenSpec.ofChange s with cond := some uptoSmall }

/-- 'butterylaw05.PagerMany', WHERE WHAT IT READS IS OF BULK AT MOST 1048576: true; the input reads as it did. -/
def pagerManyUptoRow : OpenClaim := { program := "yteoeaojebklfjaagreatdoor", sum := "b5bca79a1492ff77d271a4bebf2a901930e25f3b349c2b2d51ef66c5cd45b51d", func := "buttery/butterylaw05.PagerMany", spec := "pagerMany", unfollowed := true, recurses := true, named := ["unicode/utf8.first", "unicode/utf8.acceptRanges"], apart := false, laid := [("unicode/utf8.acceptRanges", laid_unicode_utf8_acceptRanges), ("unicode/utf8.first", laid_unicode_utf8_first)], narrowed := true }
def PagerManyUptoSaid : Prop := pagerManyUptoRow.holds Tryz.pinned (OpenSpec.upto pagerManySpec)

/-- 'butterylaw05.PagerApart', WHERE WHAT IT READS IS OF BULK AT MOST 1048576: true; the input reads as it did. -/
def pagerApartUptoRow : OpenClaim := { program := "yteoeaojebklfjaagreatdoor", sum := "b5bca79a1492ff77d271a4bebf2a901930e25f3b349c2b2d51ef66c5cd45b51d", func := "buttery/butterylaw05.PagerApart", spec := "pagerApart", unfollowed := true, recurses := true, named := ["unicode/utf8.first", "unicode/utf8.acceptRanges"], apart := false, laid := [("unicode/utf8.acceptRanges", laid_unicode_utf8_acceptRanges), ("unicode/utf8.first", laid_unicode_utf8_first)], narrowed := true }
def PagerApartUptoSaid : Prop := pagerApartUptoRow.holds Tryz.pinned (OpenSpec.upto pagerApartSpec)

/-- 'butterylaw05.PagerPlays', WHERE WHAT IT READS IS OF BULK AT MOST 1048576: true; the input reads as it did. -/
def pagerPlaysUptoRow : OpenClaim := { program := "yteoeaojebklfjaagreatdoor", sum := "b5bca79a1492ff77d271a4bebf2a901930e25f3b349c2b2d51ef66c5cd45b51d", func := "buttery/butterylaw05.PagerPlays", spec := "pagerPlays", unfollowed := true, recurses := true, named := ["unicode/utf8.first", "unicode/utf8.acceptRanges"], apart := false, laid := [("unicode/utf8.acceptRanges", laid_unicode_utf8_acceptRanges), ("unicode/utf8.first", laid_unicode_utf8_first)], narrowed := true }
def PagerPlaysUptoSaid : Prop := pagerPlaysUptoRow.holds Tryz.pinned (OpenSpec.upto pagerPlaysSpec)

/-- 'butterylaw05.PagerLost', WHERE WHAT IT READS IS OF BULK AT MOST 1048576: true; the input reads as it did. -/
def pagerLostUptoRow : OpenClaim := { program := "yteoeaojebklfjaagreatdoor", sum := "b5bca79a1492ff77d271a4bebf2a901930e25f3b349c2b2d51ef66c5cd45b51d", func := "buttery/butterylaw05.PagerLost", spec := "pagerLost", unfollowed := true, recurses := true, named := ["unicode/utf8.first", "unicode/utf8.acceptRanges"], apart := false, laid := [("unicode/utf8.acceptRanges", laid_unicode_utf8_acceptRanges), ("unicode/utf8.first", laid_unicode_utf8_first)], narrowed := true }
def PagerLostUptoSaid : Prop := pagerLostUptoRow.holds Tryz.pinned (OpenSpec.upto pagerLostSpec)

/-- 'butterylaw05.PagerTorn', WHERE WHAT IT READS IS OF BULK AT MOST 1048576: true; the input reads as it did. -/
def pagerTornUptoRow : OpenClaim := { program := "yteoeaojebklfjaagreatdoor", sum := "b5bca79a1492ff77d271a4bebf2a901930e25f3b349c2b2d51ef66c5cd45b51d", func := "buttery/butterylaw05.PagerTorn", spec := "pagerTorn", unfollowed := true, recurses := true, named := ["unicode/utf8.first", "unicode/utf8.acceptRanges"], apart := false, laid := [("unicode/utf8.acceptRanges", laid_unicode_utf8_acceptRanges), ("unicode/utf8.first", laid_unicode_utf8_first)], narrowed := true }
def PagerTornUptoSaid : Prop := pagerTornUptoRow.holds Tryz.pinned (OpenSpec.upto pagerTornSpec)

/-- 'butterylaw05.PagerCrashes', WHERE WHAT IT READS IS OF BULK AT MOST 1048576: true; the input reads as it did. -/
def pagerCrashesUptoRow : OpenClaim := { program := "yteoeaojebklfjaagreatdoor", sum := "b5bca79a1492ff77d271a4bebf2a901930e25f3b349c2b2d51ef66c5cd45b51d", func := "buttery/butterylaw05.PagerCrashes", spec := "pagerCrashes", unfollowed := true, recurses := true, named := ["unicode/utf8.first", "unicode/utf8.acceptRanges"], apart := false, laid := [("unicode/utf8.acceptRanges", laid_unicode_utf8_acceptRanges), ("unicode/utf8.first", laid_unicode_utf8_first)], narrowed := true }
def PagerCrashesUptoSaid : Prop := pagerCrashesUptoRow.holds Tryz.pinned (OpenSpec.upto pagerCrashesSpec)

end Rows
end Go.Proofs.YteoeaojebklfjaaGreatDoor
