/- T7 in one text. -/
import Derived.Test.YteoeaojebklfjaaGreatDoorV27
/- Laws: single operations; PagerMany, plainly. -/
namespace Go.Proofs.YteoeaojebklfjaaGreatDoor
open Go.RowKit Go.Maps
set_option linter.unusedVariables false
set_option linter.unusedSimpArgs false
set_option maxRecDepth 20000
section
variable {a : Act} {o : Oper} {x y z : Operand}
theorem y_idx28 (w : World) {g off n cap k : Nat} (hk : k < n) (ho : o.op = .indexAddr 28 x y) (hx : a.eval x = .slice (some ⟨g, off, none⟩) n cap) (hy : a.eval y = .int .i64 (k : Int)) : (execOp a.eval o).run Tryz.prog w = .ok (.value (.pointer (some ⟨g, off + k, none⟩))) w := by
  have i0 : (0 : Int) ≤ (k : Int) := by omega
  have i1 : (k : Int) < (n : Int) := by omega
  have hs : (Tryz.prog.info? 3).map (·.size) = some 1 := by kernel_rfl
  unfold execOp
  simp only [ho, hx, hy]
  go_simp
theorem y_conv35 (w : World) {p : Int} (ho : o.op = .convert 3 5 x) (hx : a.eval x = .int .i64 p) : (execOp a.eval o).run Tryz.prog w = .ok (.value (.int .u8 (IntKind.u8.wrap p))) w := by
  unfold execOp
  simp only [ho, hx]
  go_simp
theorem y_add5 (w : World) {p q : Int} (ho : o.op = .binOp .add 5 x y 5) (hx : a.eval x = .int .u8 p) (hy : a.eval y = .int .u8 q) : (execOp a.eval o).run Tryz.prog w = .ok (.value (.int .u8 (IntKind.u8.wrap (p + q)))) w := by
  unfold execOp
  simp only [ho, hx, hy]
  go_simp
theorem y_ne29 (w : World) {p q : Int} {b : Bool} (hb : (p != q) = b) (ho : o.op = .binOp .neq 29 x y 29) (hx : a.eval x = .int .i64 p) (hy : a.eval y = .int .i64 q) : (execOp a.eval o).run Tryz.prog w = .ok (.value (.bool b)) w := by
  subst hb
  unfold execOp
  simp only [ho, hx, hy]
  go_simp
theorem y_ne3 (w : World) {p q : Int} {b : Bool} (hb : (p != q) = b) (ho : o.op = .binOp .neq 3 x y 3) (hx : a.eval x = .int .i64 p) (hy : a.eval y = .int .i64 q) : (execOp a.eval o).run Tryz.prog w = .ok (.value (.bool b)) w := by
  subst hb
  unfold execOp
  simp only [ho, hx, hy]
  go_simp
theorem y_ne9 (w : World) {p q : ByteArray} {b : Bool} (hb : (!(p.toList == q.toList)) = b) (ho : o.op = .binOp .neq 9 x y 9) (hx : a.eval x = .string p) (hy : a.eval y = .string q) : (execOp a.eval o).run Tryz.prog w = .ok (.value (.bool b)) w := by
  subst hb
  unfold execOp
  simp only [ho, hx, hy]
  go_simp
theorem y_pickF (w : World) {v : Value} (ho : o.op = .pick x y z) (hx : a.eval x = .bool false) (hy : a.eval z = v) : (execOp a.eval o).run Tryz.prog w = .ok (.value v) w := by
  unfold execOp
  simp only [ho, hx, hy]
  go_simp
theorem call20_ (args : Array Value) (w : World) : (callFunc 20 args).run Tryz.prog w = .ok (.enter 20 args) w := by go_simp
theorem call14_ (args : Array Value) (w : World) : (callFunc 14 args).run Tryz.prog w = .ok (.enter 14 args) w := by go_simp
end
/-- the byte of a page in a round -/
def byteOf (c : UInt8) (n : Nat) : UInt8 := c + UInt8.ofNat n
theorem byteOf_is (c : UInt8) (n : Nat) : IntKind.u8.wrap ((c.toNat : Int) + IntKind.u8.wrap (n : Int)) = ((byteOf c n).toNat : Int) := by
  unfold byteOf IntKind.wrap
  simp only [IntKind.signed, Bool.false_and, if_false]
  rw [UInt8.toNat_add, UInt8.toNat_ofNat']
  show ((c.toNat : Int) + (n : Int) % 256) % 256 = _
  omega
end Go.Proofs.YteoeaojebklfjaaGreatDoor
