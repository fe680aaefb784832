/- What single operations yield. (Printed by genAE.py.) -/
import Derived.Test.YtfmpidacklhmaaaAD
namespace Go.Proofs.Ytfmpidacklhmaaa
open Go.RowKit Go.Maps
set_option linter.unusedVariables false
set_option maxRecDepth 20000

section
variable {a : Act} {o : Oper} {x y z : Operand} {g off : Nat}
theorem y_f64_0 (w : World) (ho : o.op = .fieldAddr 64 x 0) (hx : a.eval x = .pointer (some ⟨g, off, none⟩)) : (execOp a.eval o).run Try.prog w = .ok (.value (.pointer (some ⟨g, off, none⟩))) w := by
  unfold execOp
  simp only [ho, hx]
  go_simp
theorem y_f64_1 (w : World) (ho : o.op = .fieldAddr 64 x 1) (hx : a.eval x = .pointer (some ⟨g, off, none⟩)) : (execOp a.eval o).run Try.prog w = .ok (.value (.pointer (some ⟨g, off + 13, none⟩))) w := by
  unfold execOp
  simp only [ho, hx]
  go_simp
theorem y_f64_2 (w : World) (ho : o.op = .fieldAddr 64 x 2) (hx : a.eval x = .pointer (some ⟨g, off, none⟩)) : (execOp a.eval o).run Try.prog w = .ok (.value (.pointer (some ⟨g, off + 14, none⟩))) w := by
  unfold execOp
  simp only [ho, hx]
  go_simp
theorem y_f64_3 (w : World) (ho : o.op = .fieldAddr 64 x 3) (hx : a.eval x = .pointer (some ⟨g, off, none⟩)) : (execOp a.eval o).run Try.prog w = .ok (.value (.pointer (some ⟨g, off + 15, none⟩))) w := by
  unfold execOp
  simp only [ho, hx]
  go_simp
theorem y_f64_4 (w : World) (ho : o.op = .fieldAddr 64 x 4) (hx : a.eval x = .pointer (some ⟨g, off, none⟩)) : (execOp a.eval o).run Try.prog w = .ok (.value (.pointer (some ⟨g, off + 16, none⟩))) w := by
  unfold execOp
  simp only [ho, hx]
  go_simp
theorem y_f64_5 (w : World) (ho : o.op = .fieldAddr 64 x 5) (hx : a.eval x = .pointer (some ⟨g, off, none⟩)) : (execOp a.eval o).run Try.prog w = .ok (.value (.pointer (some ⟨g, off + 17, none⟩))) w := by
  unfold execOp
  simp only [ho, hx]
  go_simp
theorem y_f64_6 (w : World) (ho : o.op = .fieldAddr 64 x 6) (hx : a.eval x = .pointer (some ⟨g, off, none⟩)) : (execOp a.eval o).run Try.prog w = .ok (.value (.pointer (some ⟨g, off + 18, none⟩))) w := by
  unfold execOp
  simp only [ho, hx]
  go_simp
theorem y_f44_0 (w : World) (ho : o.op = .fieldAddr 44 x 0) (hx : a.eval x = .pointer (some ⟨g, off, none⟩)) : (execOp a.eval o).run Try.prog w = .ok (.value (.pointer (some ⟨g, off, none⟩))) w := by
  unfold execOp
  simp only [ho, hx]
  go_simp
theorem y_f44_1 (w : World) (ho : o.op = .fieldAddr 44 x 1) (hx : a.eval x = .pointer (some ⟨g, off, none⟩)) : (execOp a.eval o).run Try.prog w = .ok (.value (.pointer (some ⟨g, off + 1, none⟩))) w := by
  unfold execOp
  simp only [ho, hx]
  go_simp
theorem y_f44_2 (w : World) (ho : o.op = .fieldAddr 44 x 2) (hx : a.eval x = .pointer (some ⟨g, off, none⟩)) : (execOp a.eval o).run Try.prog w = .ok (.value (.pointer (some ⟨g, off + 2, none⟩))) w := by
  unfold execOp
  simp only [ho, hx]
  go_simp
theorem y_f44_3 (w : World) (ho : o.op = .fieldAddr 44 x 3) (hx : a.eval x = .pointer (some ⟨g, off, none⟩)) : (execOp a.eval o).run Try.prog w = .ok (.value (.pointer (some ⟨g, off + 3, none⟩))) w := by
  unfold execOp
  simp only [ho, hx]
  go_simp
theorem y_f44_4 (w : World) (ho : o.op = .fieldAddr 44 x 4) (hx : a.eval x = .pointer (some ⟨g, off, none⟩)) : (execOp a.eval o).run Try.prog w = .ok (.value (.pointer (some ⟨g, off + 4, none⟩))) w := by
  unfold execOp
  simp only [ho, hx]
  go_simp
theorem y_f44_5 (w : World) (ho : o.op = .fieldAddr 44 x 5) (hx : a.eval x = .pointer (some ⟨g, off, none⟩)) : (execOp a.eval o).run Try.prog w = .ok (.value (.pointer (some ⟨g, off + 5, none⟩))) w := by
  unfold execOp
  simp only [ho, hx]
  go_simp
theorem y_f44_6 (w : World) (ho : o.op = .fieldAddr 44 x 6) (hx : a.eval x = .pointer (some ⟨g, off, none⟩)) : (execOp a.eval o).run Try.prog w = .ok (.value (.pointer (some ⟨g, off + 6, none⟩))) w := by
  unfold execOp
  simp only [ho, hx]
  go_simp
theorem y_f44_7 (w : World) (ho : o.op = .fieldAddr 44 x 7) (hx : a.eval x = .pointer (some ⟨g, off, none⟩)) : (execOp a.eval o).run Try.prog w = .ok (.value (.pointer (some ⟨g, off + 7, none⟩))) w := by
  unfold execOp
  simp only [ho, hx]
  go_simp
theorem y_f44_8 (w : World) (ho : o.op = .fieldAddr 44 x 8) (hx : a.eval x = .pointer (some ⟨g, off, none⟩)) : (execOp a.eval o).run Try.prog w = .ok (.value (.pointer (some ⟨g, off + 12, none⟩))) w := by
  unfold execOp
  simp only [ho, hx]
  go_simp
theorem y_f44_9 (w : World) (ho : o.op = .fieldAddr 44 x 9) (hx : a.eval x = .pointer (some ⟨g, off, none⟩)) : (execOp a.eval o).run Try.prog w = .ok (.value (.pointer (some ⟨g, off + 13, none⟩))) w := by
  unfold execOp
  simp only [ho, hx]
  go_simp
theorem y_f44_10 (w : World) (ho : o.op = .fieldAddr 44 x 10) (hx : a.eval x = .pointer (some ⟨g, off, none⟩)) : (execOp a.eval o).run Try.prog w = .ok (.value (.pointer (some ⟨g, off + 16, none⟩))) w := by
  unfold execOp
  simp only [ho, hx]
  go_simp
theorem y_f34_0 (w : World) (ho : o.op = .fieldAddr 34 x 0) (hx : a.eval x = .pointer (some ⟨g, off, none⟩)) : (execOp a.eval o).run Try.prog w = .ok (.value (.pointer (some ⟨g, off, none⟩))) w := by
  unfold execOp
  simp only [ho, hx]
  go_simp
theorem y_f34_1 (w : World) (ho : o.op = .fieldAddr 34 x 1) (hx : a.eval x = .pointer (some ⟨g, off, none⟩)) : (execOp a.eval o).run Try.prog w = .ok (.value (.pointer (some ⟨g, off + 1, none⟩))) w := by
  unfold execOp
  simp only [ho, hx]
  go_simp
theorem y_f34_2 (w : World) (ho : o.op = .fieldAddr 34 x 2) (hx : a.eval x = .pointer (some ⟨g, off, none⟩)) : (execOp a.eval o).run Try.prog w = .ok (.value (.pointer (some ⟨g, off + 2, none⟩))) w := by
  unfold execOp
  simp only [ho, hx]
  go_simp
theorem y_f34_3 (w : World) (ho : o.op = .fieldAddr 34 x 3) (hx : a.eval x = .pointer (some ⟨g, off, none⟩)) : (execOp a.eval o).run Try.prog w = .ok (.value (.pointer (some ⟨g, off + 3, none⟩))) w := by
  unfold execOp
  simp only [ho, hx]
  go_simp
theorem y_f34_4 (w : World) (ho : o.op = .fieldAddr 34 x 4) (hx : a.eval x = .pointer (some ⟨g, off, none⟩)) : (execOp a.eval o).run Try.prog w = .ok (.value (.pointer (some ⟨g, off + 4, none⟩))) w := by
  unfold execOp
  simp only [ho, hx]
  go_simp
theorem y_f36_0 (w : World) (ho : o.op = .fieldAddr 36 x 0) (hx : a.eval x = .pointer (some ⟨g, off, none⟩)) : (execOp a.eval o).run Try.prog w = .ok (.value (.pointer (some ⟨g, off, none⟩))) w := by
  unfold execOp
  simp only [ho, hx]
  go_simp
theorem y_f36_1 (w : World) (ho : o.op = .fieldAddr 36 x 1) (hx : a.eval x = .pointer (some ⟨g, off, none⟩)) : (execOp a.eval o).run Try.prog w = .ok (.value (.pointer (some ⟨g, off + 1, none⟩))) w := by
  unfold execOp
  simp only [ho, hx]
  go_simp
theorem y_f36_2 (w : World) (ho : o.op = .fieldAddr 36 x 2) (hx : a.eval x = .pointer (some ⟨g, off, none⟩)) : (execOp a.eval o).run Try.prog w = .ok (.value (.pointer (some ⟨g, off + 2, none⟩))) w := by
  unfold execOp
  simp only [ho, hx]
  go_simp
theorem y_f74_0 (w : World) (ho : o.op = .fieldAddr 74 x 0) (hx : a.eval x = .pointer (some ⟨g, off, none⟩)) : (execOp a.eval o).run Try.prog w = .ok (.value (.pointer (some ⟨g, off, none⟩))) w := by
  unfold execOp
  simp only [ho, hx]
  go_simp
theorem y_f74_1 (w : World) (ho : o.op = .fieldAddr 74 x 1) (hx : a.eval x = .pointer (some ⟨g, off, none⟩)) : (execOp a.eval o).run Try.prog w = .ok (.value (.pointer (some ⟨g, off + 1, none⟩))) w := by
  unfold execOp
  simp only [ho, hx]
  go_simp
theorem y_f74_2 (w : World) (ho : o.op = .fieldAddr 74 x 2) (hx : a.eval x = .pointer (some ⟨g, off, none⟩)) : (execOp a.eval o).run Try.prog w = .ok (.value (.pointer (some ⟨g, off + 2, none⟩))) w := by
  unfold execOp
  simp only [ho, hx]
  go_simp
theorem y_f74_3 (w : World) (ho : o.op = .fieldAddr 74 x 3) (hx : a.eval x = .pointer (some ⟨g, off, none⟩)) : (execOp a.eval o).run Try.prog w = .ok (.value (.pointer (some ⟨g, off + 3, none⟩))) w := by
  unfold execOp
  simp only [ho, hx]
  go_simp
theorem y_f74_4 (w : World) (ho : o.op = .fieldAddr 74 x 4) (hx : a.eval x = .pointer (some ⟨g, off, none⟩)) : (execOp a.eval o).run Try.prog w = .ok (.value (.pointer (some ⟨g, off + 4, none⟩))) w := by
  unfold execOp
  simp only [ho, hx]
  go_simp
theorem y_f74_5 (w : World) (ho : o.op = .fieldAddr 74 x 5) (hx : a.eval x = .pointer (some ⟨g, off, none⟩)) : (execOp a.eval o).run Try.prog w = .ok (.value (.pointer (some ⟨g, off + 5, none⟩))) w := by
  unfold execOp
  simp only [ho, hx]
  go_simp
theorem y_f74_6 (w : World) (ho : o.op = .fieldAddr 74 x 6) (hx : a.eval x = .pointer (some ⟨g, off, none⟩)) : (execOp a.eval o).run Try.prog w = .ok (.value (.pointer (some ⟨g, off + 6, none⟩))) w := by
  unfold execOp
  simp only [ho, hx]
  go_simp
theorem y_f101_0 (w : World) (ho : o.op = .fieldAddr 101 x 0) (hx : a.eval x = .pointer (some ⟨g, off, none⟩)) : (execOp a.eval o).run Try.prog w = .ok (.value (.pointer (some ⟨g, off, none⟩))) w := by
  unfold execOp
  simp only [ho, hx]
  go_simp
theorem y_f101_1 (w : World) (ho : o.op = .fieldAddr 101 x 1) (hx : a.eval x = .pointer (some ⟨g, off, none⟩)) : (execOp a.eval o).run Try.prog w = .ok (.value (.pointer (some ⟨g, off + 5, none⟩))) w := by
  unfold execOp
  simp only [ho, hx]
  go_simp
theorem y_f66_0 (w : World) (ho : o.op = .fieldAddr 66 x 0) (hx : a.eval x = .pointer (some ⟨g, off, none⟩)) : (execOp a.eval o).run Try.prog w = .ok (.value (.pointer (some ⟨g, off, none⟩))) w := by
  unfold execOp
  simp only [ho, hx]
  go_simp
theorem y_f66_1 (w : World) (ho : o.op = .fieldAddr 66 x 1) (hx : a.eval x = .pointer (some ⟨g, off, none⟩)) : (execOp a.eval o).run Try.prog w = .ok (.value (.pointer (some ⟨g, off + 1, none⟩))) w := by
  unfold execOp
  simp only [ho, hx]
  go_simp
theorem y_f66_2 (w : World) (ho : o.op = .fieldAddr 66 x 2) (hx : a.eval x = .pointer (some ⟨g, off, none⟩)) : (execOp a.eval o).run Try.prog w = .ok (.value (.pointer (some ⟨g, off + 2, none⟩))) w := by
  unfold execOp
  simp only [ho, hx]
  go_simp
theorem y_f66_3 (w : World) (ho : o.op = .fieldAddr 66 x 3) (hx : a.eval x = .pointer (some ⟨g, off, none⟩)) : (execOp a.eval o).run Try.prog w = .ok (.value (.pointer (some ⟨g, off + 3, none⟩))) w := by
  unfold execOp
  simp only [ho, hx]
  go_simp
theorem y_f28_5 (w : World) (ho : o.op = .fieldAddr 28 x 5) (hx : a.eval x = .pointer (some ⟨g, off, none⟩)) : (execOp a.eval o).run Try.prog w = .ok (.value (.pointer (some ⟨g, off + 5, none⟩))) w := by
  unfold execOp
  simp only [ho, hx]
  go_simp
theorem y_f28_11 (w : World) (ho : o.op = .fieldAddr 28 x 11) (hx : a.eval x = .pointer (some ⟨g, off, none⟩)) : (execOp a.eval o).run Try.prog w = .ok (.value (.pointer (some ⟨g, off + 11, none⟩))) w := by
  unfold execOp
  simp only [ho, hx]
  go_simp
theorem y_f51_0 (w : World) (ho : o.op = .fieldAddr 51 x 0) (hx : a.eval x = .pointer (some ⟨g, off, none⟩)) : (execOp a.eval o).run Try.prog w = .ok (.value (.pointer (some ⟨g, off, none⟩))) w := by
  unfold execOp
  simp only [ho, hx]
  go_simp
theorem y_f51_1 (w : World) (ho : o.op = .fieldAddr 51 x 1) (hx : a.eval x = .pointer (some ⟨g, off, none⟩)) : (execOp a.eval o).run Try.prog w = .ok (.value (.pointer (some ⟨g, off + 1, none⟩))) w := by
  unfold execOp
  simp only [ho, hx]
  go_simp
theorem y_f51_2 (w : World) (ho : o.op = .fieldAddr 51 x 2) (hx : a.eval x = .pointer (some ⟨g, off, none⟩)) : (execOp a.eval o).run Try.prog w = .ok (.value (.pointer (some ⟨g, off + 2, none⟩))) w := by
  unfold execOp
  simp only [ho, hx]
  go_simp
theorem y_load5 {w : World} {z : Int} (ho : o.op = .load 5 x) (hx : a.eval x = .pointer (some ⟨g, off, none⟩)) (hc : w.cell? ⟨g, off, none⟩ = some (.int .u8 z)) : (execOp a.eval o).run Try.prog w = .ok (.value (.int .u8 z)) w := by
  unfold execOp
  simp only [ho, hx]
  go_simp
theorem y_load9 {w : World} {z : ByteArray} (ho : o.op = .load 9 x) (hx : a.eval x = .pointer (some ⟨g, off, none⟩)) (hc : w.cell? ⟨g, off, none⟩ = some (.string z)) : (execOp a.eval o).run Try.prog w = .ok (.value (.string z)) w := by
  unfold execOp
  simp only [ho, hx]
  go_simp
theorem y_load24 {w : World} {z : Int} (ho : o.op = .load 24 x) (hx : a.eval x = .pointer (some ⟨g, off, none⟩)) (hc : w.cell? ⟨g, off, none⟩ = some (.int .i64 z)) : (execOp a.eval o).run Try.prog w = .ok (.value (.int .i64 z)) w := by
  unfold execOp
  simp only [ho, hx]
  go_simp
theorem y_load4 {w : World} {z : Bool} (ho : o.op = .load 4 x) (hx : a.eval x = .pointer (some ⟨g, off, none⟩)) (hc : w.cell? ⟨g, off, none⟩ = some (.bool z)) : (execOp a.eval o).run Try.prog w = .ok (.value (.bool z)) w := by
  unfold execOp
  simp only [ho, hx]
  go_simp
theorem y_load62 {w : World} {z : Option Nat} (ho : o.op = .load 62 x) (hx : a.eval x = .pointer (some ⟨g, off, none⟩)) (hc : w.cell? ⟨g, off, none⟩ = some (.map z)) : (execOp a.eval o).run Try.prog w = .ok (.value (.map z)) w := by
  unfold execOp
  simp only [ho, hx]
  go_simp
theorem y_load59 {w : World} {z : Option Addr} (ho : o.op = .load 59 x) (hx : a.eval x = .pointer (some ⟨g, off, none⟩)) (hc : w.cell? ⟨g, off, none⟩ = some (.pointer z)) : (execOp a.eval o).run Try.prog w = .ok (.value (.pointer z)) w := by
  unfold execOp
  simp only [ho, hx]
  go_simp
theorem y_load56 {w : World} {z : Option Addr} (ho : o.op = .load 56 x) (hx : a.eval x = .pointer (some ⟨g, off, none⟩)) (hc : w.cell? ⟨g, off, none⟩ = some (.pointer z)) : (execOp a.eval o).run Try.prog w = .ok (.value (.pointer z)) w := by
  unfold execOp
  simp only [ho, hx]
  go_simp
theorem y_load53 {w : World} {z : Option Addr} (ho : o.op = .load 53 x) (hx : a.eval x = .pointer (some ⟨g, off, none⟩)) (hc : w.cell? ⟨g, off, none⟩ = some (.pointer z)) : (execOp a.eval o).run Try.prog w = .ok (.value (.pointer z)) w := by
  unfold execOp
  simp only [ho, hx]
  go_simp
def Op5.row (o : Op5) : List Value := [.int .u8 o.kind, .string o.key, .string o.val, .string o.old, .bool o.had]
theorem y_load34 {w : World} {p : Op5} (ho : o.op = .load 34 x) (hx : a.eval x = .pointer (some ⟨g, off, none⟩)) (hc : ∀ i u, p.row[i]? = some u → w.cell? ⟨g, off + i, none⟩ = some u) : (execOp a.eval o).run Try.prog w = .ok (.value p.v) w := by
  obtain ⟨k, key, val, old, had⟩ := p
  have c0 := hc 0 _ rfl
  have c1 := hc 1 _ rfl
  have c2 := hc 2 _ rfl
  have c3 := hc 3 _ rfl
  have c4 := hc 4 _ rfl
  rw [Nat.add_zero] at c0
  unfold execOp
  simp only [ho, hx, Op5.v]
  go_simp
def resV (k : Int) (f : Bool) (v : ByteArray) : Value := .agg #[.int .u8 k, .bool f, .string v]
theorem y_load36 {w : World} {k : Int} {f : Bool} {v : ByteArray} (ho : o.op = .load 36 x) (hx : a.eval x = .pointer (some ⟨g, off, none⟩)) (c0 : w.cell? ⟨g, off, none⟩ = some (.int .u8 k)) (c1 : w.cell? ⟨g, off + 1, none⟩ = some (.bool f)) (c2 : w.cell? ⟨g, off + 2, none⟩ = some (.string v)) : (execOp a.eval o).run Try.prog w = .ok (.value (resV k f v)) w := by
  unfold execOp
  simp only [ho, hx, resV]
  go_simp
theorem y_look62 {w : World} {M n : Nat} {f : Int → Ak} {k : Int} (ho : o.op = .lookup 62 x y false) (hx : a.eval x = .map (some M)) (hy : a.eval y = .int .i64 k) (h : AskedAt w M f n) (hk : (Lit.int .i64 k).wf = true) : (execOp a.eval o).run Try.prog w = .ok (.value (f k).v) w := by
  unfold execOp
  simp only [ho, hx, hy, Sem.run_bind, h.look hk, Result.andThen_ok, Sem.run_pure]
theorem y_ext0 (w : World) {p q : Value} (ho : o.op = .extract x 0) (hx : a.eval x = .tuple #[p, q]) : (execOp a.eval o).run Try.prog w = .ok (.value p) w := by
  unfold execOp
  simp only [ho, hx]
  go_simp
theorem y_ext1 (w : World) {p q : Value} (ho : o.op = .extract x 1) (hx : a.eval x = .tuple #[p, q]) : (execOp a.eval o).run Try.prog w = .ok (.value q) w := by
  unfold execOp
  simp only [ho, hx]
  go_simp
theorem y_field101 (w : World) {k : Ak} (ho : o.op = .field 101 x 0) (hx : a.eval x = k.v) : (execOp a.eval o).run Try.prog w = .ok (.value k.op.v) w := by
  have h : (Instr.field 101 k.v 0).run Try.prog w = .ok k.op.v w := by kernel_rfl
  unfold execOp
  simp only [ho, hx, Sem.run_bind, h, Result.andThen_ok, Sem.run_pure]
theorem y_build (w : World) {T : TypeId} {parts : Array (Nat × Operand)} {cells : Array Value} (ho : o.op = .build T parts) (hb : Try.prog.built T (parts.map fun (i, x) => (i, a.eval x)).toList = some cells) : (execOp a.eval o).run Try.prog w = .ok (.value (.agg cells)) w := by
  unfold execOp
  simp only [ho, Sem.run_bind, run_build w T _ _ hb, Result.andThen_ok, Sem.run_pure]
theorem y_add3 (w : World) {p q : Int} (ho : o.op = .binOp .add 3 x y 3) (hx : a.eval x = .int .i64 p) (hy : a.eval y = .int .i64 q) : (execOp a.eval o).run Try.prog w = .ok (.value (.int .i64 (IntKind.i64.wrap (p + q)))) w := by
  unfold execOp
  simp only [ho, hx, hy]
  go_simp
theorem y_mul3 (w : World) {p q : Int} (ho : o.op = .binOp .mul 3 x y 3) (hx : a.eval x = .int .i64 p) (hy : a.eval y = .int .i64 q) : (execOp a.eval o).run Try.prog w = .ok (.value (.int .i64 (IntKind.i64.wrap (p * q)))) w := by
  unfold execOp
  simp only [ho, hx, hy]
  go_simp
theorem y_eq3 (w : World) {p q : Int} (ho : o.op = .binOp .eql 3 x y 3) (hx : a.eval x = .int .i64 p) (hy : a.eval y = .int .i64 q) : (execOp a.eval o).run Try.prog w = .ok (.value (.bool (p == q))) w := by
  unfold execOp
  simp only [ho, hx, hy]
  go_simp
theorem y_eq24 (w : World) {p q : Int} (ho : o.op = .binOp .eql 24 x y 24) (hx : a.eval x = .int .i64 p) (hy : a.eval y = .int .i64 q) : (execOp a.eval o).run Try.prog w = .ok (.value (.bool (p == q))) w := by
  unfold execOp
  simp only [ho, hx, hy]
  go_simp
theorem y_enter {n : Nat} {args : List Operand} {ts : Array TypeId} (vs : List Value) (ho : o.op = .call { callee := .value (.func n), args := args.toArray, argTypes := ts }) (hv : args.map a.eval = vs) (hc : ∀ w, (callFunc n vs.toArray).run Try.prog w = .ok (.enter n vs.toArray) w) (w : World) : (execOp a.eval o).run Try.prog w = .ok (.enter n vs.toArray) w := by
  unfold execOp
  simp only [ho]
  have := hc w
  have hv' : args.toArray.map a.eval = vs.toArray := by rw [List.map_toArray, hv]
  go_simp
theorem wp_enter {w : World} {f : Nat} {args : Array Value} {K : Act → World → Prop} {Q : Exit → Act → World → Prop} (h : (execOp a.eval o).run Try.prog w = .ok (.enter f args) w) (hc : Calls Try.prog f args w fun e w' => ∃ v, e = .returned v ∧ K (a.put o.dst v) w') : o.wp Try.prog a w K Q := by
  unfold Oper.wp
  rw [h, Oper.upon_enter]
  refine hc.mono ?_
  rintro e w' ⟨v, rfl, h3⟩
  exact h3
theorem wp_val {w w' : World} {v : Value} {K : Act → World → Prop} {Q : Exit → Act → World → Prop} (h : (execOp a.eval o).run Try.prog w = .ok (.value v) w') (hK : K (a.put o.dst v) w') : o.wp Try.prog a w K Q := by
  unfold Oper.wp
  rw [h]
  exact hK
theorem wp_skip {w w' : World} {K : Act → World → Prop} {Q : Exit → Act → World → Prop} (h : (execOp a.eval o).run Try.prog w = .ok .skip w') (hK : K (a.put o.dst undef) w') : o.wp Try.prog a w K Q := by
  unfold Oper.wp
  rw [h]
  exact hK
end
theorem call19_ (args : Array Value) (w : World) : (callFunc 19 args).run Try.prog w = .ok (.enter 19 args) w := by go_simp
theorem call20_ (args : Array Value) (w : World) : (callFunc 20 args).run Try.prog w = .ok (.enter 20 args) w := by go_simp
theorem call21_ (args : Array Value) (w : World) : (callFunc 21 args).run Try.prog w = .ok (.enter 21 args) w := by go_simp
theorem call35_ (args : Array Value) (w : World) : (callFunc 35 args).run Try.prog w = .ok (.enter 35 args) w := by go_simp
theorem call36_ (args : Array Value) (w : World) : (callFunc 36 args).run Try.prog w = .ok (.enter 36 args) w := by go_simp
theorem call37_ (args : Array Value) (w : World) : (callFunc 37 args).run Try.prog w = .ok (.enter 37 args) w := by go_simp
theorem call38_ (args : Array Value) (w : World) : (callFunc 38 args).run Try.prog w = .ok (.enter 38 args) w := by go_simp
theorem call39_ (args : Array Value) (w : World) : (callFunc 39 args).run Try.prog w = .ok (.enter 39 args) w := by go_simp
theorem call40_ (args : Array Value) (w : World) : (callFunc 40 args).run Try.prog w = .ok (.enter 40 args) w := by go_simp
theorem call41_ (args : Array Value) (w : World) : (callFunc 41 args).run Try.prog w = .ok (.enter 41 args) w := by go_simp
theorem call42_ (args : Array Value) (w : World) : (callFunc 42 args).run Try.prog w = .ok (.enter 42 args) w := by go_simp
theorem call43_ (args : Array Value) (w : World) : (callFunc 43 args).run Try.prog w = .ok (.enter 43 args) w := by go_simp
theorem call44_ (args : Array Value) (w : World) : (callFunc 44 args).run Try.prog w = .ok (.enter 44 args) w := by go_simp
theorem call45_ (args : Array Value) (w : World) : (callFunc 45 args).run Try.prog w = .ok (.enter 45 args) w := by go_simp
theorem call46_ (args : Array Value) (w : World) : (callFunc 46 args).run Try.prog w = .ok (.enter 46 args) w := by go_simp
theorem call47_ (args : Array Value) (w : World) : (callFunc 47 args).run Try.prog w = .ok (.enter 47 args) w := by go_simp
theorem call54_ (args : Array Value) (w : World) : (callFunc 54 args).run Try.prog w = .ok (.enter 54 args) w := by go_simp
def Mg.op5 (m : Mg) : Op5 := ⟨m.op, m.key, m.val, m.old, m.had⟩
theorem mg_op {w : World} {X : Nat} {m : Mg} (h : CellsR w X m.row) : ∀ i u, m.op5.row[i]? = some u → w.cell? ⟨X, 7 + i, none⟩ = some u := by
  intro i u hu
  match i, hu with
  | 0, hu => injection hu with hu; subst hu; exact h.is 7 _ rfl
  | 1, hu => injection hu with hu; subst hu; exact h.is 8 _ rfl
  | 2, hu => injection hu with hu; subst hu; exact h.is 9 _ rfl
  | 3, hu => injection hu with hu; subst hu; exact h.is 10 _ rfl
  | 4, hu => injection hu with hu; subst hu; exact h.is 11 _ rfl
  | _ + 5, hu => cases hu
def Ak.row' (x : Ak) : List Value := x.row
theorem ak_op {w : World} {X : Nat} {x : Ak} (h : CellsR w X x.row) : ∀ i u, x.op.row[i]? = some u → w.cell? ⟨X, 0 + i, none⟩ = some u := by
  intro i u hu
  rw [Nat.zero_add]
  match i, hu with
  | 0, hu => injection hu with hu; subst hu; exact h.is 0 _ rfl
  | 1, hu => injection hu with hu; subst hu; exact h.is 1 _ rfl
  | 2, hu => injection hu with hu; subst hu; exact h.is 2 _ rfl
  | 3, hu => injection hu with hu; subst hu; exact h.is 3 _ rfl
  | 4, hu => injection hu with hu; subst hu; exact h.is 4 _ rfl
  | _ + 5, hu => cases hu
theorem cells_of_row {w : World} {X : Nat} {row : List Value} {T : TypeId} (h : w.heap[X]? = some (.cells row.toArray T (0, 0))) : CellsR w X row :=
  ⟨fun i u hu => by rw [cell_of_row w X i row.toArray T (0, 0) h]; simpa using hu, fun i => frozen_of_row w X i row.toArray T h, (Array.getElem?_eq_some_iff.1 h).1⟩
/-- a block made for a value of T -/
structure Made (w : World) (X : Nat) (T : TypeId) (n : Nat) : Prop where
  is : ∃ old, w.heap[X]? = some (.cells old T (0, 0)) ∧ old.size = n
theorem Made.only {w w' : World} {X : Nat} {T : TypeId} {n : Nat} {S : Nat → Prop} (h : Made w X T n) (o : Only S w w') (hX : ¬ S X) : Made w' X T n := by
  obtain ⟨old, h1, h2⟩ := h.is
  exact ⟨old, (o.block X (Array.getElem?_eq_some_iff.1 h1).1 hX).trans h1, h2⟩
section
variable {a : Act} {o : Oper} {x y z : Operand} {g off : Nat}
theorem wp_alloc {w : World} {K : Act → World → Prop} {Q : Exit → Act → World → Prop} {T : TypeId} {c : Array Value} {n : Nat} (ho : o.op = .alloc T) (hr : ∀ w : World, (Instr.alloc T true (.tuple #[])).run Try.prog w = .ok (.pointer (some ⟨w.heap.size, 0, none⟩)) (w.alloc (.cells c T))) (hn : c.size = n)
    (h : ∀ X w', X = w.heap.size → Made w' X T n → Only None' w w' → K (a.put o.dst (.pointer (some ⟨X, 0, none⟩))) w') : o.wp Try.prog a w K Q := by
  refine wp_val (w' := w.alloc (.cells c T)) (v := .pointer (some ⟨w.heap.size, 0, none⟩)) ?_ (h _ _ rfl ⟨c, heap_alloc_new w _, hn⟩ ((Only.refl None' w).alloc _))
  unfold execOp
  simp only [ho, Sem.run_bind, hr w, Result.andThen_ok, Sem.run_pure]
theorem wp_store_new {w : World} {K : Act → World → Prop} {Q : Exit → Act → World → Prop} {T : TypeId} {X : Nat} {row : List Value} (ho : o.op = .store T x y) (hx : a.eval x = .pointer (some ⟨X, 0, none⟩)) (hy : a.eval y = .agg row.toArray) (hm : Made w X T row.length) (hi : (Try.prog.info? T).map (·.size) = some row.length) (h1 : row.toArray.all (·.oneCell') = true)
    (h : ∀ w', CellsR w' X row → Only (fun k => k = X) w w' → K (a.put o.dst undef) w') : o.wp Try.prog a w K Q := by
  obtain ⟨old, h2, h3⟩ := hm.is
  refine wp_store_row T x y ho X row.toArray hx hy T old h2 hi (by simpa using h3) h1 (h _ (cells_of_row (setRow_heap w X old row.toArray T _ h2)) ?_)
  exact ⟨rfl, rfl, rfl, by rw [size_setRow]; exact Nat.le_refl _, fun i hi hn => setRow_other w X i _ hn⟩
end
theorem alloc101 (w : World) : (Instr.alloc 101 true (.tuple #[])).run Try.prog w = .ok (.pointer (some ⟨w.heap.size, 0, none⟩)) (w.alloc (.cells #[.int .u8 0, .string ⟨#[]⟩, .string ⟨#[]⟩, .string ⟨#[]⟩, .bool false, .bool false] 101)) := by kernel_rfl
theorem alloc74 (w : World) : (Instr.alloc 74 true (.tuple #[])).run Try.prog w = .ok (.pointer (some ⟨w.heap.size, 0, none⟩)) (w.alloc (.cells #[.int .i64 0, .string ⟨#[]⟩, .int .i64 0, .int .i64 0, .int .i64 0, .int .i64 0, .bool false] 74)) := by kernel_rfl
theorem alloc34 (w : World) : (Instr.alloc 34 true (.tuple #[])).run Try.prog w = .ok (.pointer (some ⟨w.heap.size, 0, none⟩)) (w.alloc (.cells #[.int .u8 0, .string ⟨#[]⟩, .string ⟨#[]⟩, .string ⟨#[]⟩, .bool false] 34)) := by kernel_rfl
theorem alloc66 (w : World) : (Instr.alloc 66 true (.tuple #[])).run Try.prog w = .ok (.pointer (some ⟨w.heap.size, 0, none⟩)) (w.alloc (.cells #[.string ⟨#[]⟩, .string ⟨#[]⟩, .int .i64 0, .int .i64 0] 66)) := by kernel_rfl
theorem size101 : (Try.prog.info? 101).map (·.size) = some 6 := by kernel_rfl
theorem size74 : (Try.prog.info? 74).map (·.size) = some 7 := by kernel_rfl
theorem size34 : (Try.prog.info? 34).map (·.size) = some 5 := by kernel_rfl
theorem size66 : (Try.prog.info? 66).map (·.size) = some 4 := by kernel_rfl
theorem Ak.row_one (k : Ak) : k.row.toArray.all (·.oneCell') = true := by simp [Ak.row, Value.oneCell']
theorem Op5.row_one (k : Op5) : k.row.toArray.all (·.oneCell') = true := by simp [Op5.row, Value.oneCell']
end Go.Proofs.Ytfmpidacklhmaaa
