/- LruStays: both ways. -/
import Derived.Test.YthmdaekkpihlnaaR3
namespace Go.Proofs.Ythmdaekkpihlnaa
open Go.RowKit
set_option linter.unusedVariables false

set_option maxRecDepth 100000 in
theorem stays_long (x y : Int) (a : Option Addr) (n cap : Nat) (ss : List Stp) (w : World) (S : Steps w a n ss) (h : longB ss = true) :
    Calls Try.prog 3 #[.int .i64 x, .int .i64 y, .slice a n cap] w fun r w' => r = .returned (.bool true) ∧ Below w.heap.size w w' := by
  have SS := Lib.hid S
  have HH := Lib.hid h
  clear S h
  go_enter Try.func3, Try.ntmps3
  go_wp2_with fail
  refine (works_any _).mono ?_
  rintro r w1 ⟨rfl, h1⟩
  have hb1 : Below w.heap.size w w1 := h1.below (Nat.le_refl _) fun _ h => h.elim
  have hl := long_any (cap := cap) (SS.out.below hb1)
  rw [HH.out] at hl
  have HL := Lib.hid hl
  have B1 := Lib.hid hb1
  clear h1 hb1 hl
  go_wp2_with fail
  refine HL.out.mono ?_
  rintro r w' ⟨rfl, q, rfl⟩
  go_wp2_with fail
  refine (works_any _).mono ?_
  rintro r w2 ⟨rfl, h1⟩
  have hb2 : Below w.heap.size w w2 := (B1.out.trans ⟨rfl, rfl, rfl, Nat.le_refl _, fun _ _ => rfl⟩ : Below w.heap.size w (w1.drewN q)).trans (h1.below B1.out.size fun _ h => h.elim)
  have B2 := Lib.hid hb2
  clear h1 hb2
  go_wp2
  go_ret
  exact ⟨rfl, B2.out⟩

theorem stays_walk (x y : Int) (a : Option Addr) (n cap : Nat) (ss : List Stp) (w : World) (S : Steps w a n ss) :
    Calls Try.prog 3 #[.int .i64 x, .int .i64 y, .slice a n cap] w fun r w' => r = .returned (.bool true) ∧ Below w.heap.size w w' := by
  cases h : longB ss with
  | true => exact stays_long x y a n cap ss w S h
  | false => exact stays_good x y a n cap ss w S h

end Go.Proofs.Ythmdaekkpihlnaa
