/- The map of who is open: its keys are structs. -/
import Derived.Test.YtajbagdgjbihjaaE4
import Derived.DeepKeys4
namespace Go.Proofs.Ytajbagdgjbihjaa
open Go.RowKit Go.Maps Go.Sort
set_option linter.unusedVariables false

theorem laid : laidOutB Try.prog = true := by kernel_rfl
theorem keyed63 : Keyed Try.prog 63 := Keyed.of_law (deep_law_laid laid (m := 2) (by omega) (of_decide_eq_true (by kernel_rfl)) (by kernel_rfl) (by kernel_rfl))
theorem under60 : Try.prog.underlying 60 = some (.map 63 3) := by kernel_rfl

noncomputable def fs63 : Array Field := match Try.prog.underlying 63 with
  | some (.struct fs) => fs
  | _ => #[]
def whoV (a b : Int) : Value := .agg #[.int .i64 a, .int .i64 b]
theorem key_who {a b : Int} (ha : (Lit.int .i64 a).wf = true) (hb : (Lit.int .i64 b).wf = true) : keyOf Try.prog 63 (whoV a b) = some (.string (keyBytes [.int .i64 a, .int .i64 b])) := by
  have h63 : Try.prog.underlying 63 = some (.struct fs63) := by kernel_rfl
  unfold keyOf
  rw [h63]
  simp only
  have e1 : Try.prog.keyType 63 = true := by kernel_rfl
  have e2 : Value.formed Try.prog 63 (whoV a b) = true := by kernel_rfl
  have e3 : Try.prog.keyLits (Try.prog.types.size + 1) 63 (whoV a b).cells.toList = ([if IntKind.i64 = IntKind.i64 ∧ (Lit.int .i64 a).wf = true then some [Lit.int .i64 a] else none, if IntKind.i64 = IntKind.i64 ∧ (Lit.int .i64 b).wf = true then some [Lit.int .i64 b] else none].mapM id).map List.flatten := by
    kernel_rfl
  have f1 : (if IntKind.i64 = IntKind.i64 ∧ (Lit.int .i64 a).wf = true then some [Lit.int .i64 a] else none) = some [Lit.int .i64 a] := if_pos ⟨rfl, ha⟩
  have f2 : (if IntKind.i64 = IntKind.i64 ∧ (Lit.int .i64 b).wf = true then some [Lit.int .i64 b] else none) = some [Lit.int .i64 b] := if_pos ⟨rfl, hb⟩
  rw [f1, f2] at e3
  rw [e3, if_pos (by rw [e1, e2]; rfl)]
  rfl
end Go.Proofs.Ytajbagdgjbihjaa
