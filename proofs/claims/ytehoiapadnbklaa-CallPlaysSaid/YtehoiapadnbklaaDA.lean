/- CallPlays: the walk. -/
import Derived.Test.YtehoiapadnbklaaD9
import Derived.Deep.RegionHeld3
namespace Go.Proofs.Ytehoiapadnbklaa
open Go.RowKit Go.Maps
set_option linter.unusedVariables false

theorem PH.start {w w1 w2 : World} {B M X : Nat} {lf : Nat} (o1 : Only None' w w1) (h1 : CallAt w1 B M ⟨lf, 0, []⟩) (hB : w.heap.size ≤ B) (hM : w.heap.size ≤ M) (d : DocAt w2 X (.slice none 0 0) ⟨lf, 0, []⟩) (hX : X = w1.heap.size) (o2 : Only None' w1 w2) : PH w w2 B M X (.slice none 0 0) (.slice none 0 0) [] 0 ⟨lf, 0, []⟩ ⟨lf, 0, []⟩ := by
  have s1 := o1.size
  have lB := h1.cells.lt
  have lM := h1.lt
  exact ⟨o1.trans o2, h1.new o2, d, Vec.nil _ 1, ⟨hB, hM, by omega⟩, ⟨by omega, by omega⟩, (fun g hg => by cases hg), (fun g hg => by cases hg), Nat.le_refl _, fun n hn => by cases hn⟩
set_option maxRecDepth 20000 in
theorem plays_bad (x : Int) (hx : x < 1 ∨ 2047 < x) (a : Option Addr) (n c : Nat) (w : World) : Calls Try.prog 4 #[.int .i64 x, .slice a n c] w fun e w' => e = .returned (.bool true) ∧ Below w.heap.size w w' := by
  have HX := Lib.hid hx
  clear hx
  go_enter Try.func4, Try.ntmps4
  go_wp2_with fail
  refine (new_bad x HX.out w).mono ?_
  rintro e w1 ⟨rfl, e1⟩
  obtain rfl := e1
  go_wp2_with fail
  refine (dnew_bad x HX.out w).mono ?_
  rintro e w1 ⟨rfl, e1⟩
  obtain rfl := e1
  go_wp2_with fail
  go_loopw [10] (fun i wr => i = .int .i64 0 ∧ Hid (Only None' w wr)) (fun i wr => 0)
  case atStart => exact ⟨rfl, Lib.hid (Only.refl _ _)⟩
  case round =>
    obtain ⟨rfl, HO⟩ := hrel
    by_cases h0 : n = 0
    · subst h0
      go_wp2_with fail
      refine (awake_any _).mono ?_
      rintro e w1 ⟨rfl, o⟩
      have O := Lib.hid o
      clear o
      go_wp2_with fail
      go_ret
      exact ⟨rfl, (HO.out.trans O.out).below (Nat.le_refl _) fun _ e => e.elim⟩
    · have d0 : decide ((0 : Int) < (n : Int)) = true := by rw [decide_eq_true_eq]; omega
      have d1 : (0 : Int) < (n : Int) := by omega
      clear h0
      go_wp2_with fail
      refine (awake_any _).mono ?_
      rintro e w1 ⟨rfl, o⟩
      have O := Lib.hid o
      clear o
      go_wp2_with fail
      go_ret
      exact ⟨rfl, (HO.out.trans O.out).below (Nat.le_refl _) fun _ e => e.elim⟩
end Go.Proofs.Ytehoiapadnbklaa
