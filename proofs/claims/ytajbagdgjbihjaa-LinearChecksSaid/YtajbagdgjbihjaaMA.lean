/- What single operations yield: sums, slices, appends of events. -/
import Derived.Test.YtajbagdgjbihjaaM3
namespace Go.Proofs.Ytajbagdgjbihjaa
open Go.RowKit Go.Maps
set_option linter.unusedVariables false

section
variable {a : Act} {o : Oper} {x y : Operand}
theorem y_add (w : World) {p q z : Int} (ho : o.op = .binOp .add 3 x y 3) (hx : a.eval x = .int .i64 p) (hy : a.eval y = .int .i64 q) (h1 : p + q = z) (h2 : IntKind.i64.wrap z = z) : (execOp a.eval o).run Try.prog w = .ok (.value (.int .i64 z)) w := by
  unfold execOp
  simp only [ho, hx, hy]
  go_simp
theorem y_build31 (w : World) {parts : List (Nat × Operand)} {ps : List (Nat × Value)} (e : Ev) (ho : o.op = .build 31 parts.toArray) (hp : (parts.map fun (i, x) => (i, a.eval x)) = ps) (hb : Try.prog.built 31 ps = some e.row.toArray) : (execOp a.eval o).run Try.prog w = .ok (.value e.vv) w := by
  have hq : (parts.toArray.map fun (i, x) => (i, a.eval x)).toList = ps := by rw [← hp]; simp
  unfold execOp
  simp only [ho, Sem.run_bind, run_build w 31 _ e.row.toArray (by rw [hq]; exact hb), Result.andThen_ok, Sem.run_pure]
  rfl
theorem y_load31 {w : World} {X : Nat} {e : Ev} (ho : o.op = .load 31 x) (hx : a.eval x = .pointer (some ⟨X, 0, none⟩)) (hc : CellsR w X e.row) : (execOp a.eval o).run Try.prog w = .ok (.value e.vv) w := by
  obtain ⟨e1, e2, e3, e4, e5, e6, e7, e8, e9, ea, eb, ec⟩ := e
  have c0 := hc.is 0 _ rfl
  have c1 := hc.is 1 _ rfl
  have c2 := hc.is 2 _ rfl
  have c3 := hc.is 3 _ rfl
  have c4 := hc.is 4 _ rfl
  have c5 := hc.is 5 _ rfl
  have c6 := hc.is 6 _ rfl
  have c7 := hc.is 7 _ rfl
  have c8 := hc.is 8 _ rfl
  have c9 := hc.is 9 _ rfl
  have c10 := hc.is 10 _ rfl
  have c11 := hc.is 11 _ rfl
  unfold execOp
  simp only [ho, hx, Ev.vv]
  go_simp
theorem run_upto34 (w : World) {g off n c k : Nat} (h : k ≤ c) : (Instr.sliceAt 34 (.slice (some ⟨g, off, none⟩) n c) none (some (.int .i64 (k : Int))) none).run Try.prog w = .ok (.slice (some ⟨g, off, none⟩) k c) w := by
  have b1 : (0 : Int) ≤ (k : Int) := by omega
  have b3 : (k : Int) ≤ (c : Int) := by omega
  have hs : (Try.prog.info? 31).map (·.size) = some 12 := by rw [info31]; rfl
  go_simp
theorem y_upto34 (w : World) {g off n c k : Nat} {h : Operand} (ho : o.op = .slice 34 x none (some h) none) (hx : a.eval x = .slice (some ⟨g, off, none⟩) n c) (hh : a.eval h = .int .i64 (k : Int)) (hk : k ≤ c) : (execOp a.eval o).run Try.prog w = .ok (.value (.slice (some ⟨g, off, none⟩) k c)) w := by
  unfold execOp
  simp only [ho, Sem.run_bind, Option.map_some, Option.map_none, hx, hh, run_upto34 w hk, Result.andThen_ok, Sem.run_pure]
end
theorem evs_one (l : List Ev) : ∀ u ∈ l.flatMap Ev.row, u.oneCell' = true := fun u hu => by
  obtain ⟨e, _, h⟩ := List.mem_flatMap.1 hu
  exact Ev.row_one e u h
theorem er_rd {w : World} {v : Value} {l : List Ev} (h : ER w v l) : Rd w 12 v l.length (l.flatMap Ev.row) := by
  refine ⟨flat_length Ev.row 12 l fun x _ => rfl, ?_⟩
  rcases h.form with ⟨rfl, rfl⟩ | ⟨g, off, cap, rfl, h1, h2, h3, h4⟩
  · exact .inl ⟨rfl, rfl⟩
  · exact .inr ⟨_, cap, rfl, h1, h2, fun j u hu => by rw [add_mid' (⟨g, off, none⟩) j rfl]; exact h4 j u hu⟩
theorem er_vec {w : World} {v : Value} {l : List Ev} (h : Vec w 12 v l.length (l.flatMap Ev.row)) : ER w v l := by
  refine ⟨?_⟩
  rcases h.form with ⟨rfl, h1⟩ | ⟨g, off, cap, rfl, h1, h2, h3, h4, _⟩
  · exact .inl ⟨rfl, List.eq_nil_of_length_eq_zero h1⟩
  · exact .inr ⟨g, off, cap, rfl, h1, h2, h3, h4⟩
theorem er_upto {w : World} {g off c k : Nat} {l : List Ev} (h : ER w (.slice (some ⟨g, off, none⟩) l.length c) l) (hk : k ≤ l.length) : k ≤ c ∧ ER w (.slice (some ⟨g, off, none⟩) k c) (l.take k) := by
  rcases h.form with ⟨e, _⟩ | ⟨g', off', cap', e, h1, h2, h3, h4⟩
  · cases e
  · cases e
    refine ⟨by omega, ⟨.inr ⟨g, off, c, by rw [List.length_take, Nat.min_eq_left hk], by rw [List.length_take]; omega, h2, h3, fun j u hu => h4 j u ?_⟩⟩⟩
    rw [← flat_take Ev.row 12 l k (fun _ _ => rfl) hk, List.getElem?_take] at hu
    split at hu
    · exact hu
    · cases hu
theorem wp_append_ev {o : Oper} {a : Act} {w : World} {K : Act → World → Prop} {Q : Exit → Act → World → Prop} {s x : Operand} {sv xv : Value} {l l2 : List Ev} (ho : o.op = .call { callee := .builtin .append, args := #[s, x], argTypes := #[34, 34] }) (hs : a.eval s = sv) (hx : a.eval x = xv)
    (hv : Vec w 12 sv l.length (l.flatMap Ev.row)) (hr : ER w xv l2) (few : l.length + l2.length ≤ 100000)
    (h : ∀ v' w', Vec w' 12 v' (l ++ l2).length ((l ++ l2).flatMap Ev.row) → w.grownBy w' sv.ownBlock → (∀ k, v'.ownBlock = some k → sv.ownBlock = some k ∨ w.heap.size ≤ k) → K (a.put o.dst v') w') : o.wp Try.prog a w K Q := by
  have hb := t31_bytes
  obtain ⟨v', w', hrun, h2, h3, h4⟩ := run_append_any (P := Try.prog) (w := w) 34 o.type 31 Try.t31 _ 12 Try.t31.bytes under34 info31 t31_zero' t31_size rfl rfl (by decide) sv l.length (l.flatMap Ev.row) hv xv l2.length (l2.flatMap Ev.row) (er_rd hr) (evs_one l2) (by unfold maxLen; omega)
    (by have : (l.length + l2.length) * Try.t31.bytes ≤ 100000 * 200 := Nat.mul_le_mul few hb; omega)
  unfold Oper.wp execOp
  simp only [ho, resolve, invoke, builtin, Sem.run_bind, Sem.run_pure, Result.andThen_ok, List.map_toArray, List.map_cons, List.map_nil, hs, hx, hrun]
  exact h v' w' (by rw [List.length_append, List.flatMap_append]; exact h2) h3 h4
theorem call13 (args : Array Value) (w : World) : (callFunc 13 args).run Try.prog w = .ok (.enter 13 args) w := by go_simp
end Go.Proofs.Ytajbagdgjbihjaa
