/- What single operations yield. -/
import Derived.Test.YteoeaojebklfjaaH1
namespace Go.Proofs.Yteoeaojebklfjaa
open Go.RowKit Go.Maps
set_option linter.unusedVariables false

section
variable {a : Act} {o : Oper} {x y : Operand} {p q z : Int}
theorem yields_move (w : World) {v : Value} (ho : o.op = .move x) (hx : a.eval x = v) : (execOp a.eval o).run Try.prog w = .ok (.value v) w := by
  unfold execOp
  simp only [ho, hx]
  go_simp
theorem yields_add (w : World) (ho : o.op = .binOp .add 3 x y 3) (hx : a.eval x = .int .i64 p) (hy : a.eval y = .int .i64 q) (h1 : p + q = z) (h2 : IntKind.i64.wrap z = z) : (execOp a.eval o).run Try.prog w = .ok (.value (.int .i64 z)) w := by
  unfold execOp
  simp only [ho, hx, hy]
  go_simp
theorem yields_sub (w : World) (ho : o.op = .binOp .sub 3 x y 3) (hx : a.eval x = .int .i64 p) (hy : a.eval y = .int .i64 q) (h1 : p - q = z) (h2 : IntKind.i64.wrap z = z) : (execOp a.eval o).run Try.prog w = .ok (.value (.int .i64 z)) w := by
  unfold execOp
  simp only [ho, hx, hy]
  go_simp
theorem yields_mul (w : World) (ho : o.op = .binOp .mul 3 x y 3) (hx : a.eval x = .int .i64 p) (hy : a.eval y = .int .i64 q) (h1 : p * q = z) (h2 : IntKind.i64.wrap z = z) : (execOp a.eval o).run Try.prog w = .ok (.value (.int .i64 z)) w := by
  unfold execOp
  simp only [ho, hx, hy]
  go_simp
theorem yields_eql (w : World) {b : Bool} (ho : o.op = .binOp .eql 3 x y 3) (hx : a.eval x = .int .i64 p) (hy : a.eval y = .int .i64 q) (h1 : (p == q) = b) : (execOp a.eval o).run Try.prog w = .ok (.value (.bool b)) w := by
  unfold execOp
  simp only [ho, hx, hy]
  go_simp
theorem yields_min (w : World) {t : Array TypeId} (ho : o.op = .call { callee := .builtin .min, args := #[x, y], argTypes := t }) (hx : a.eval x = .int .i64 p) (hy : a.eval y = .int .i64 q) (h1 : (if q < p then q else p) = z) : (execOp a.eval o).run Try.prog w = .ok (.value (.int .i64 z)) w := by
  unfold execOp
  simp only [ho, resolve, invoke, builtin, Sem.run_bind, Sem.run_pure, Result.andThen_ok, List.map_toArray, List.map_cons, List.map_nil, hx, hy, run_min_int2, h1]
theorem yields_len34 (w : World) {ad : Option Addr} {n c : Nat} (ho : o.op = .call { callee := .builtin .len, args := #[x], argTypes := #[34] }) (hx : a.eval x = .slice ad n c) : (execOp a.eval o).run Try.prog w = .ok (.value (.int .i64 (n : Int))) w := by
  unfold execOp
  simp only [ho, resolve, invoke, builtin, Sem.run_bind, Sem.run_pure, Result.andThen_ok, List.map_toArray, List.map_cons, List.map_nil, hx]
  go_simp
theorem run_slice34 (w : World) {g off n c lo hi : Nat} (h1 : lo ≤ hi) (h2 : hi ≤ c) (h3 : lo < c ∨ lo = 0) :
    (Instr.sliceAt 34 (.slice (some ⟨g, off, none⟩) n c) (some (.int .i64 (lo : Int))) (some (.int .i64 (hi : Int))) none).run Try.prog w = .ok (.slice (some ⟨g, off + lo, none⟩) (hi - lo) (c - lo)) w := by
  have b1 : (0 : Int) ≤ (lo : Int) := by omega
  have b2 : (lo : Int) ≤ (hi : Int) := by omega
  have b3 : (hi : Int) ≤ (c : Int) := by omega
  have hs : (Try.prog.info? 5).map (·.size) = some 1 := by kernel_rfl
  rcases h3 with h3 | rfl
  · have hne : ¬ c = lo := by omega
    go_simp
  · go_simp
theorem yields_slice34 (w : World) {g off n c lo hi : Nat} {l h : Operand} (ho : o.op = .slice 34 x (some l) (some h) none) (hx : a.eval x = .slice (some ⟨g, off, none⟩) n c) (hl : a.eval l = .int .i64 (lo : Int)) (hh : a.eval h = .int .i64 (hi : Int)) (h1 : lo ≤ hi) (h2 : hi ≤ c) (h3 : lo < c ∨ lo = 0) :
    (execOp a.eval o).run Try.prog w = .ok (.value (.slice (some ⟨g, off + lo, none⟩) (hi - lo) (c - lo))) w := by
  unfold execOp
  simp only [ho, Sem.run_bind, Option.map_some, Option.map_none, hx, hl, hh, run_slice34 w h1 h2 h3, Result.andThen_ok, Sem.run_pure]
theorem run_all124 (w : World) (S : Nat) : (Instr.sliceAt 124 (.pointer (some ⟨S, 0, none⟩)) none none none).run Try.prog w = .ok (.slice (some ⟨S, 0, none⟩) 512 512) w := by
  have hs : (Try.prog.info? 5).map (·.size) = some 1 := by kernel_rfl
  go_simp
theorem yields_all124 (w : World) {S : Nat} (ho : o.op = .slice 124 x none none none) (hx : a.eval x = .pointer (some ⟨S, 0, none⟩)) : (execOp a.eval o).run Try.prog w = .ok (.value (.slice (some ⟨S, 0, none⟩) 512 512)) w := by
  unfold execOp
  simp only [ho, Sem.run_bind, Option.map_none, hx, run_all124 w S, Result.andThen_ok, Sem.run_pure]
end
end Go.Proofs.Yteoeaojebklfjaa
