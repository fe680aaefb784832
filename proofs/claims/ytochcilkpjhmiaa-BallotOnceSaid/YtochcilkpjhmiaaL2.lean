/- What the laws ask first (works), by the contracts, at the numbers that it hands in. -/
import Derived.Test.YtochcilkpjhmiaaL0
namespace Go.Proofs.Ytochcilkpjhmiaa
open Go.RowKit

theorem ri_new (W : World) (zs : List Int) (hz : zs.length ≤ 1000) : RI (W.alloc (.cells (zs.map (Value.int .i64)).toArray 3)) (some ⟨W.heap.size, 0, none⟩) zs.length zs.length zs := by
  refine ⟨rfl, Nat.le_refl _, by unfold maxLen; omega, (by intro h; cases h), fun a ha => ?_⟩
  injection ha with ha
  subst ha
  refine ⟨rfl, by simp, fun j hj => ?_⟩
  rw [Nat.zero_add, World.cell?_alloc_new]
  simp [nth_get zs j hj, hj]

theorem lits_ri (W : World) (xs ys : List Int) (hx : xs.length ≤ 1000) (hy : ys.length ≤ 1000) :
    RI ((W.alloc (.cells (xs.map (Value.int .i64)).toArray 3)).alloc (.cells (ys.map (Value.int .i64)).toArray 3)) (some ⟨W.heap.size, 0, none⟩) xs.length xs.length xs ∧
    RI ((W.alloc (.cells (xs.map (Value.int .i64)).toArray 3)).alloc (.cells (ys.map (Value.int .i64)).toArray 3)) (some ⟨W.heap.size + 1, 0, none⟩) ys.length ys.length ys := by
  refine ⟨(ri_new W xs hx).below ((Below.refl _ _).alloc (Nat.le_refl _) _), ?_⟩
  have := ri_new (W.alloc (.cells (xs.map (Value.int .i64)).toArray 3)) ys hy
  rw [World.size_alloc] at this
  exact this

theorem below_two (W : World) (o1 o2 : Obj) : Below W.heap.size W ((W.alloc o1).alloc o2) := ((Below.refl _ _).alloc (Nat.le_refl _) _).alloc (by simp) _

theorem won_lit (W : World) (xs ys : List Int) (hx : xs.length ≤ 1000) (hy : ys.length ≤ 1000) (r : Bool) (hr : wonB xs ys = r) :
    Calls Try.prog 23 #[.slice (some ⟨W.heap.size, 0, none⟩) xs.length xs.length, .slice (some ⟨W.heap.size + 1, 0, none⟩) ys.length ys.length] ((W.alloc (.cells (xs.map (Value.int .i64)).toArray 3)).alloc (.cells (ys.map (Value.int .i64)).toArray 3)) fun e w' => e = .returned (.bool r) ∧ Below W.heap.size W w' := by
  obtain ⟨h1, h2⟩ := lits_ri W xs ys hx hy
  subst hr
  exact bstep (below_two _ _ _) (Nat.le_refl _) (won_any _ _ _ _ _ _ xs ys _ h1 h2 (by omega) (by omega))

theorem near_lit (W : World) (xs ys : List Int) (hx : xs.length ≤ 1000) (hy : ys.length ≤ 1000) (r : Bool) (hr : nearB xs ys = r) :
    Calls Try.prog 19 #[.slice (some ⟨W.heap.size, 0, none⟩) xs.length xs.length, .slice (some ⟨W.heap.size + 1, 0, none⟩) ys.length ys.length] ((W.alloc (.cells (xs.map (Value.int .i64)).toArray 3)).alloc (.cells (ys.map (Value.int .i64)).toArray 3)) fun e w' => e = .returned (.bool r) ∧ Below W.heap.size W w' := by
  obtain ⟨h1, h2⟩ := lits_ri W xs ys hx hy
  subst hr
  exact bstep (below_two _ _ _) (Nat.le_refl _) (near_any _ _ _ _ _ _ xs ys _ h1 h2 (by omega) (by omega))

theorem common_lit (W : World) (xs ys : List Int) (hx : xs.length ≤ 1000) (hy : ys.length ≤ 1000) (r : Int) (hr : commonI xs ys = r) :
    Calls Try.prog 25 #[.slice (some ⟨W.heap.size, 0, none⟩) xs.length xs.length, .slice (some ⟨W.heap.size + 1, 0, none⟩) ys.length ys.length] ((W.alloc (.cells (xs.map (Value.int .i64)).toArray 3)).alloc (.cells (ys.map (Value.int .i64)).toArray 3)) fun e w' => e = .returned (.int .i64 r) ∧ Below W.heap.size W w' := by
  obtain ⟨h1, h2⟩ := lits_ri W xs ys hx hy
  subst hr
  exact bstep (below_two _ _ _) (Nat.le_refl _) (common_any _ _ _ _ _ _ xs ys _ h1 h2 (by omega) (by omega))

theorem check_lit (W : World) (xs : List Int) (hx : xs.length ≤ 1000) (r : Bool) (hr : chkB xs = r) :
    Calls Try.prog 21 #[.slice (some ⟨W.heap.size, 0, none⟩) xs.length xs.length] (W.alloc (.cells (xs.map (Value.int .i64)).toArray 3)) fun e w' => e = .returned (.bool r) ∧ Below W.heap.size W w' := by
  subst hr
  exact bstep ((Below.refl _ _).alloc (Nat.le_refl _) _) (Nat.le_refl _) (check_any _ _ _ xs _ (ri_new W xs hx) (by omega))

theorem won_eval (vs votes : List Int) (r : Bool) (h : decide (((once vs).length : Int) - ((once vs).countP (hasB votes) : Int) < ((once vs).countP (hasB votes) : Int)) = r) : wonB vs votes = r :=
  (won_once vs votes _ rfl).symm.trans h
theorem near_eval (a b : List Int) (r : Bool) (h : decide ((((once a).countP (fun x => !hasB (once b) x) : Nat) : Int) + (((once b).countP (fun x => !hasB (once a) x) : Nat) : Int) < 2) = r) : nearB a b = r :=
  (near_once a b _ _ rfl rfl).symm.trans h
theorem common_eval (vs at' : List Int) (r : Int) (h : bestUp at' (once vs) at'.length = r) : commonI vs at' = r :=
  (common_eq vs at').symm.trans h

theorem works_any (w : World) : Calls Try.prog 27 #[] w fun e w' => e = .returned (.bool true) ∧ Below w.heap.size w w' := by
  have a1 := Lib.hid (won_eval [1, 2, 3] [3, 1] true (by decide))
  have a2 := Lib.hid (won_eval [1, 2, 3] [1, 1, 4] false (by decide))
  have a3 := Lib.hid (common_eval [1, 2, 3] [5, 7, 2] 5 (by decide))
  have a4 := Lib.hid (show chkB [1, 3] = true by decide)
  have a5 := Lib.hid (show chkB [3, 1] = false by decide)
  have a6 := Lib.hid (near_eval [1, 2] [1, 2, 3] true (by decide))
  have a7 := Lib.hid (near_eval [1, 2] [1, 3] false (by decide))
  go_enter Try.func27, Try.ntmps27
  go_wp2_with fail
  refine (won_lit w [1, 2, 3] [3, 1] (by decide) (by decide) true a1.out).mono ?_
  rintro e w1 ⟨rfl, h1⟩
  go_wp2_with fail
  refine (won_lit w1 [1, 2, 3] [1, 1, 4] (by decide) (by decide) false a2.out).mono ?_
  rintro e w2 ⟨rfl, h2⟩
  go_wp2_with fail
  refine (common_lit w2 [1, 2, 3] [5, 7, 2] (by decide) (by decide) 5 a3.out).mono ?_
  rintro e w3 ⟨rfl, h3⟩
  go_wp2_with fail
  refine (check_lit w3 [1, 3] (by decide) true a4.out).mono ?_
  rintro e w4 ⟨rfl, h4⟩
  go_wp2_with fail
  refine (check_lit w4 [3, 1] (by decide) false a5.out).mono ?_
  rintro e w5 ⟨rfl, h5⟩
  go_wp2_with fail
  refine (near_lit w5 [1, 2] [1, 2, 3] (by decide) (by decide) true a6.out).mono ?_
  rintro e w6 ⟨rfl, h6⟩
  go_wp2_with fail
  refine (near_lit w6 [1, 2] [1, 3] (by decide) (by decide) false a7.out).mono ?_
  rintro e w7 ⟨rfl, h7⟩
  go_wp2_with fail
  go_ret
  refine ⟨rfl, ?_⟩
  have c2 := h1.trans (h2.mono h1.size)
  have c3 := c2.trans (h3.mono c2.size)
  have c4 := c3.trans (h4.mono c3.size)
  have c5 := c4.trans (h5.mono c4.size)
  have c6 := c5.trans (h6.mono c5.size)
  exact c6.trans (h7.mono c6.size)

end Go.Proofs.Ytochcilkpjhmiaa
