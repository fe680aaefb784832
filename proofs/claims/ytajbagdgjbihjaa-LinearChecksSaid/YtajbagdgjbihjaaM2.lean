/- What single operations yield: calls, slices of events. -/
import Derived.Test.YtajbagdgjbihjaaM1
import Derived.Test.YtajbagdgjbihjaaNG
import Derived.Great.BuildSlice
namespace Go.Proofs.Ytajbagdgjbihjaa
open Go.RowKit Go.Maps
set_option linter.unusedVariables false

section
variable {a : Act} {o : Oper} {x y z : Operand}
theorem y_move (w : World) {v : Value} (ho : o.op = .move x) (hx : a.eval x = v) : (execOp a.eval o).run Try.prog w = .ok (.value v) w := by
  unfold execOp
  simp only [ho, hx]
  go_simp
theorem y_assign (w : World) {v : Value} (ho : o.op = .assign x) (hx : a.eval x = v) : (execOp a.eval o).run Try.prog w = .ok (.value v) w := by
  unfold execOp
  simp only [ho, hx]
  go_simp
theorem y_enter {n : Nat} {args : List Operand} {ts : Array TypeId} (vs : List Value) (ho : o.op = .call { callee := .value (.func n), args := args.toArray, argTypes := ts }) (hv : args.map a.eval = vs) (hc : ∀ w, (callFunc n vs.toArray).run Try.prog w = .ok (.enter n vs.toArray) w) (w : World) : (execOp a.eval o).run Try.prog w = .ok (.enter n vs.toArray) w := by
  unfold execOp
  simp only [ho]
  have := hc w
  have hv' : args.toArray.map a.eval = vs.toArray := by rw [List.map_toArray, hv]
  go_simp
end
theorem call9 (args : Array Value) (w : World) : (callFunc 9 args).run Try.prog w = .ok (.enter 9 args) w := by go_simp
theorem call10 (args : Array Value) (w : World) : (callFunc 10 args).run Try.prog w = .ok (.enter 10 args) w := by go_simp
theorem call11 (args : Array Value) (w : World) : (callFunc 11 args).run Try.prog w = .ok (.enter 11 args) w := by go_simp
theorem call12 (args : Array Value) (w : World) : (callFunc 12 args).run Try.prog w = .ok (.enter 12 args) w := by go_simp
section
variable {a : Act} {o : Oper} {x y z : Operand}
theorem y_load24 {w : World} {X : Nat} {p : Op5} (ho : o.op = .load 24 x) (hx : a.eval x = .pointer (some ⟨X, 0, none⟩)) (hc : CellsR w X p.row) : (execOp a.eval o).run Try.prog w = .ok (.value p.v) w := by
  obtain ⟨k, key, val, old, had⟩ := p
  have c0 := hc.is 0 _ rfl
  have c1 := hc.is 1 _ rfl
  have c2 := hc.is 2 _ rfl
  have c3 := hc.is 3 _ rfl
  have c4 := hc.is 4 _ rfl
  unfold execOp
  simp only [ho, hx, Op5.v]
  go_simp
theorem y_ext0 (w : World) {b : Bool} {n : Int} (ho : o.op = .extract x 0) (hx : a.eval x = .tuple #[.bool b, .int .i64 n]) : (execOp a.eval o).run Try.prog w = .ok (.value (.bool b)) w := by
  unfold execOp
  simp only [ho, hx]
  go_simp
theorem y_ext1 (w : World) {b : Bool} {n : Int} (ho : o.op = .extract x 1) (hx : a.eval x = .tuple #[.bool b, .int .i64 n]) : (execOp a.eval o).run Try.prog w = .ok (.value (.int .i64 n)) w := by
  unfold execOp
  simp only [ho, hx]
  go_simp
end
theorem Ev.vv_cells (e : Ev) : e.vv.cells = e.row.toArray := rfl
theorem t31_zero' : Try.t31.zero = some (Ev.mk 0 0 0 false 0 ⟨#[]⟩ ⟨#[]⟩ ⟨#[]⟩ false 0 false ⟨#[]⟩).vv := by kernel_rfl
theorem fill31 (l : List Ev) {z : Value} : Instr.fill (fun i => some (i * Try.t31.size, Try.t31.size)) ((Array.range (l.length * Try.t31.size)).map (z.cells[· % z.cells.size]!)) (((l.map Ev.vv).zipIdx 0).map fun x => (x.2, x.1)) = some (l.flatMap Ev.row).toArray := by
  rw [t31_size]
  have h := Go.Great.fill_whole (s := 12) (by decide) (l.map Ev.vv) ((Array.range (l.length * 12)).map (z.cells[· % z.cells.size]!)) (by
    intro v hv
    obtain ⟨e, _, rfl⟩ := List.mem_map.1 hv
    rfl) (by simp)
  rw [h, List.flatMap_map]
  rfl
/-- a slice of events, made of events at hand -/
theorem er_made (w : World) (l : List Ev) (hl : l.length ≤ 1000) : ER (w.alloc (.cells (l.flatMap Ev.row).toArray 31)) (.slice (some ⟨w.heap.size, 0, none⟩) l.length l.length) l := by
  refine ⟨.inr ⟨_, 0, l.length, rfl, Nat.le_refl _, by unfold maxLen; omega, by simp, fun j u hu => ?_⟩⟩
  have := World.cell?_alloc_new w (l.flatMap Ev.row).toArray 31 j
  rw [Nat.zero_add, this]
  simpa using hu
theorem wp_events {o : Oper} {a : Act} {w : World} {K : Act → World → Prop} {Q : Exit → Act → World → Prop} (l : List Ev) (parts : List (Nat × Operand)) (n : Nat) (ho : o.op = .buildSlice 34 n parts.toArray) (hn : n = l.length) (h0 : 0 < l.length) (hl : l.length ≤ 1000)
    (hp : (parts.map fun (i, x) => (i, a.eval x)) = ((l.map Ev.vv).zipIdx 0).map fun x => (x.2, x.1))
    (h : ∀ v w', ER w' v l → (∀ g, v.ownBlock = some g → w.heap.size ≤ g) → Only None' w w' → K (a.put o.dst v) w') : o.wp Try.prog a w K Q := by
  subst hn
  have hq : (parts.toArray.map fun (i, x) => (i, a.eval x)).toList = ((l.map Ev.vv).zipIdx 0).map fun x => (x.2, x.1) := by rw [← hp]; simp
  refine wp_buildSlice 34 31 l.length parts.toArray ho (l.flatMap Ev.row).toArray Try.t31 _ under34 info31 t31_zero' (by rw [t31_size]; omega) (by rw [t31_size]; omega) (by rw [hq]; exact fill31 l) ?_
  exact h _ _ (er_made w l hl) (fun g hg => by injection hg with hg; exact Nat.le_of_eq hg) ((Only.refl None' w).alloc _)
theorem wp_enter {o : Oper} {a : Act} {w : World} {f : Nat} {args : Array Value} {K : Act → World → Prop} {Q : Exit → Act → World → Prop} (h : (execOp a.eval o).run Try.prog w = .ok (.enter f args) w) (hc : Calls Try.prog f args w fun e w' => ∃ v, e = .returned v ∧ K (a.put o.dst v) w') : o.wp Try.prog a w K Q := by
  unfold Oper.wp
  rw [h, Oper.upon_enter]
  refine hc.mono ?_
  rintro e w' ⟨v, rfl, h3⟩
  exact h3
end Go.Proofs.Ytajbagdgjbihjaa
