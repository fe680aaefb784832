/- mail: one message on its way. -/
import Derived.Test.YtfmpidacklhmaaaBB
import Derived.Test.YtfmpidacklhmaaaM1
import Derived.Great.BuildSlice
namespace Go.Proofs.Ytfmpidacklhmaaa
open Go.RowKit Go.Maps
set_option linter.unusedVariables false
set_option maxRecDepth 20000

def mailR (rc : Int) (m : Mg) : List Value := .int .i64 101 :: .int .i64 rc :: m.row
def mailV (rc : Int) (m : Mg) : Value := .agg (mailR rc m).toArray
theorem under31 : Try.prog.underlying 31 = some (.slice 51) := by kernel_rfl
theorem info51 : Try.prog.info? 51 = some Try.t51 := by kernel_rfl
theorem t51_size : Try.t51.size = 35 := by kernel_rfl
theorem t51_zero : Try.t51.zero = some (.agg ((.int .i64 0 : Value) :: .int .i64 0 :: (Mg.row {})).toArray) := by kernel_rfl
/-- one mail, in a slice -/
structure MailAt (w : World) (v : Value) (R : Nat) (rc : Int) (m : Mg) : Prop where
  is : v = .slice (some ⟨R, 0, none⟩) 1 1
  row : w.heap[R]? = some (.cells (mailR rc m).toArray 51 (0, 0))
theorem MailAt.only {w w' : World} {v : Value} {R : Nat} {rc : Int} {m : Mg} {S : Nat → Prop} (h : MailAt w v R rc m) (o : Only S w w') (hn : ¬ S R) : MailAt w' v R rc m :=
  ⟨h.is, (o.block R (Array.getElem?_eq_some_iff.1 h.row).1 hn).trans h.row⟩
section
variable {a : Act} {o : Oper} {x y : Operand}
theorem y_move (w : World) {v : Value} (ho : o.op = .move x) (hx : a.eval x = v) : (execOp a.eval o).run Try.prog w = .ok (.value v) w := by
  unfold execOp
  simp only [ho, hx]
  go_simp
theorem y_assign (w : World) {v : Value} (ho : o.op = .assign x) (hx : a.eval x = v) : (execOp a.eval o).run Try.prog w = .ok (.value v) w := by
  unfold execOp
  simp only [ho, hx]
  go_simp
theorem y_nil (w : World) {p : Addr} (ho : o.op = .nilCheck x) (hx : a.eval x = .pointer (some p)) : (execOp a.eval o).run Try.prog w = .ok (.value (.pointer (some p))) w := by
  unfold execOp
  simp only [ho, hx]
  go_simp
theorem y_load44 {w : World} {B : Nat} {m : Mg} (ho : o.op = .load 44 x) (hx : a.eval x = .pointer (some ⟨B, 0, none⟩)) (hg : w.heap[B]? = some (.cells m.row.toArray 44 (0, 0))) : (execOp a.eval o).run Try.prog w = .ok (.value m.v) w := by
  unfold execOp
  simp only [ho, hx, Instr.loadAt, Instr.sureAddr, Sem.run_bind, Sem.run_pure, Result.andThen_ok, run_loadVar_row w B 44 44 m.row.toArray (0, 0) _ hg Try.underlying44 rfl (by kernel_rfl)]
  rfl
theorem wp_mail {w : World} {K : Act → World → Prop} {Q : Exit → Act → World → Prop} (rc : Int) (m : Mg) (ho : o.op = .buildSlice 31 1 #[(0, x)]) (hx : a.eval x = mailV rc m)
    (h : ∀ R w', MailAt w' (.slice (some ⟨R, 0, none⟩) 1 1) R rc m → w.heap.size ≤ R → Only None' w w' → K (a.put o.dst (.slice (some ⟨R, 0, none⟩) 1 1)) w') : o.wp Try.prog a w K Q := by
  refine wp_buildSlice 31 51 1 #[(0, x)] ho (mailR rc m).toArray Try.t51 _ under31 info51 t51_zero (by rw [t51_size]; omega) (by rw [t51_size]; omega) ?_ ?_
  · have h1 := Go.Great.fill_whole (s := 35) (by decide) [mailV rc m] ((Array.range (1 * 35)).map ((Value.agg ((.int .i64 0 : Value) :: .int .i64 0 :: (Mg.row {})).toArray).cells[· % (Value.agg ((.int .i64 0 : Value) :: .int .i64 0 :: (Mg.row {})).toArray).cells.size]!)) (by
      intro v hv
      rw [List.mem_singleton] at hv
      subst hv
      rfl) (by simp)
    rw [t51_size]
    simp only [List.map_toArray, List.map_cons, List.map_nil, hx]
    exact h1
  · exact h _ _ ⟨rfl, heap_alloc_new w _⟩ (Nat.le_refl _) ((Only.refl None' w).alloc _)
end
end Go.Proofs.Ytfmpidacklhmaaa
