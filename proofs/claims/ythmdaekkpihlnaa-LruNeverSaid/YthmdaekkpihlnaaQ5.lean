/- The document's shelf: Put. -/
import Derived.Test.YthmdaekkpihlnaaQ4
import Derived.Test.YthmdaekkpihlnaaW7
namespace Go.Proofs.Ythmdaekkpihlnaa
open Go.RowKit
set_option linter.unusedVariables false

def entObjR (e : Ent) : Obj := .cells #[.string e.key, .string e.val, .int .i64 e.til, .int .i64 e.gra] 50

theorem Ref.box {w w1 : World} {X : Nat} {E Y : Int} {v v' : Value} {L : List Ent} {o : Obj} (R : Ref w X E Y v L) (hK : Kept (OwnR X v) (OwnR X v') (w.alloc o) w1) :
    w.heap.size < w1.heap.size ∧ ¬ OwnR X v' w.heap.size ∧ w1.heap[w.heap.size]? = some o := by
  have hn : ¬ OwnR X v w.heap.size := fun h => absurd (R.lt h) (by omega)
  obtain ⟨a, b, c⟩ := hK.stay (b := w.heap.size) (by simp) hn
  exact ⟨a, b, c.trans (heap_alloc_new w o)⟩

theorem Kept.start {F F' : Nat → Prop} {w w1 : World} {o : Obj} (hK : Kept F F' (w.alloc o) w1) : Kept F F' w w1 :=
  (Kept.only' ((Only.refl F w).alloc o)).trans hK

set_option maxRecDepth 8000 in
theorem put18_no {w : World} {X : Nat} {E Y : Int} {v : Value} {L : List Ent} (R : Ref w X E Y v L) (e : Ent) (hk : e.key.size ≤ 140737488355328) (hv : e.val.size ≤ 140737488355328) (h : E < 1 ∨ Y < (e.key.size : Int) + (e.val.size : Int)) :
    Calls Try.prog 18 #[.pointer (some ⟨X, 0, none⟩), .agg #[.string e.key, .string e.val, .int .i64 e.til, .int .i64 e.gra]] w fun r w' => r = .returned (.bool false) ∧ ∃ v', Ref w' X E Y v' (pdrop L e.key) ∧ Kept (OwnR X v) (OwnR X v') w w' := by
  have hd := drop20 (R.alloc (entObjR e)) e.key
  have RR := Lib.hid R
  have HH := Lib.hid h
  clear R h
  go_enter Try.func18, Try.ntmps18
  go_wp2_with fail
  refine hd.mono ?_
  rintro r w1 ⟨rfl, v1, hR1, hK1⟩
  obtain ⟨lx, nx, bx⟩ := RR.out.box hK1
  have c (i : Nat) := cell_of_row w1 w.heap.size i _ 50 (0, 0) bx
  have k0 := c 0
  have k1 := c 1
  have c0 := hR1.c0
  have c1 := hR1.c1
  have R1 := Lib.hid hR1
  have K1 := Lib.hid hK1
  clear hd hR1 hK1 c bx
  by_cases h1 : E < 1
  · have hd1 : decide (E < 1) = true := by simpa using h1
    go_wp2_with fail
    go_quiet (fail)
    go_wp2
    go_ret
    exact ⟨rfl, v1, R1.out.drewN _, K1.out.start.trans (Kept.only' ((Only.refl _ _).drewN _))⟩
  · have hd1 : decide (E < 1) = false := by simpa using h1
    have h2 : Y < (e.key.size : Int) + (e.val.size : Int) := HH.out.resolve_left h1
    have h2' : (e.key.size : Int) + (e.val.size : Int) > Y := h2
    have b1 : (e.key.size : Int) ≤ 140737488355328 := by omega
    have b2 : (e.val.size : Int) ≤ 140737488355328 := by omega
    have w1 : IntKind.i64.wrap ((e.key.size : Int) + (e.val.size : Int)) = (e.key.size : Int) + (e.val.size : Int) := IntWalk.i64_in _ (by omega)
    go_wp2_with fail
    go_quiet (fail)
    go_wp2
    go_ret
    exact ⟨rfl, v1, R1.out.drewN _, K1.out.start.trans (Kept.only' ((Only.refl _ _).drewN _))⟩

end Go.Proofs.Ythmdaekkpihlnaa
