/- The example: the walk. -/
import Derived.Test.YtehoiapadnbklaaS7
namespace Go.Proofs.Ytehoiapadnbklaa
open Go.RowKit Go.Maps
set_option linter.unusedVariables false

theorem ex4 : exC4.ws = [⟨3145729, sA, 201, 5, 10, 14, true⟩, ⟨3145730, sB, 201, 6, 12, 12, false⟩] := by decide +kernel
theorem ex4l : ((exC3.ws.filter fun x => agoB x.last 14 4).map (Wt.at_ 14)) = [⟨3145729, sA, 201, 5, 10, 14, true⟩] := by decide +kernel
theorem ex5l : ((exC4.ws.filter fun x => agoB x.last 14 4).map (Wt.at_ 14)) = [] := by decide +kernel
theorem ex6l : (exC5.ws.filter fun x => agoB x.first 22 10) = [⟨3145729, sA, 201, 5, 10, 14, true⟩, ⟨3145730, sB, 201, 6, 12, 12, false⟩] := by decide +kernel
theorem ex6 : exC6.ws = [] := by decide +kernel
set_option maxRecDepth 20000 in
set_option maxHeartbeats 1000000 in
theorem awake_any (w : World) : Calls Try.prog 7 #[] w fun e w' => e = .returned (.bool true) ∧ Only None' w w' := by
  go_enter Try.func7, Try.ntmps7
  go_wp2_with fail
  refine (new_lit (life := 3) rfl (by decide) (by decide) w).mono ?_
  rintro e w1 ⟨B, M, rfl, h1, hB, hM, o1⟩
  have H1 := Lib.hid (And.intro h1 (And.intro hB (And.intro hM o1)))
  clear h1 hB hM o1
  go_wp2_with fail
  refine (ask_lit H1.out.1 sA 201 5 10 (by decide +kernel) (n := 3145729) (by decide +kernel) (c' := exC1) rfl).mono ?_
  rintro e w2 ⟨rfl, h2, o2⟩
  have H2 := Lib.hid (And.intro h2 o2)
  clear h2 o2
  go_wp2_with fail
  refine (ask_lit H2.out.1 sB 201 6 12 (by decide +kernel) (n := 3145730) (by decide +kernel) (c' := exC2) rfl).mono ?_
  rintro e w3 ⟨rfl, h3, o3⟩
  have H3 := Lib.hid (And.intro h3 o3)
  clear h3 o3
  go_wp2_with fail
  refine (mark_lit H3.out.1 sA (n := 1) (by decide +kernel) (c' := exC3) rfl).mono ?_
  rintro e w4 ⟨rfl, h4, o4⟩
  have H4 := Lib.hid (And.intro h4 o4)
  clear h4 o4
  go_wp2_with fail
  refine (due_lit H4.out.1 14 4 ex4l (n := 1) rfl (c' := exC4) rfl).mono ?_
  rintro e w5 ⟨a5, k5, rfl, r5, n5, h5, o5⟩
  have H5 := Lib.hid (And.intro h5 (And.intro o5 (And.intro r5 n5)))
  clear r5 n5 h5 o5
  go_wp2_with fail
  refine (due_lit H5.out.1 14 4 ex5l (n := 0) rfl (c' := exC5) rfl).mono ?_
  rintro e w6 ⟨a6, k6, rfl, -, -, h6, o6⟩
  have H6 := Lib.hid (And.intro h6 o6)
  clear h6 o6
  go_wp2_with fail
  refine (old_lit H6.out.1 22 10 ex6l (n := 2) rfl (c' := exC6) rfl).mono ?_
  rintro e w7 ⟨a7, k7, rfl, -, -, h7, o7⟩
  have H7 := Lib.hid (And.intro h7 o7)
  clear h7 o7
  go_wp2_with fail
  refine (tell_lit H7.out.1 3145729 (by decide) (x := Wt.zero) (by decide +kernel) (b := false) (by decide +kernel) (c' := exC6.told 3145729) rfl).mono ?_
  rintro e w8 ⟨rfl, h8, o8⟩
  have H8 := Lib.hid (And.intro h8 o8)
  clear h8 o8
  unfold Wt.zero Wt.v
  simp only
  have R8 : Hid (WRow w8 (.slice a5 1 k5) [⟨3145729, sA, 201, 5, 10, 14, true⟩]) := Lib.hid (by
    have hne : ∀ g, (Value.slice a5 1 k5).ownBlock = some g → B ≠ g ∧ M ≠ g := fun g hg => by
      have e1 := H5.out.2.2.2 g hg
      have e2 := H4.out.1.cells.lt
      have e3 := H4.out.1.lt
      exact ⟨by omega, by omega⟩
    have r6 := H5.out.2.2.1.only H6.out.2 fun g hg e => (hne g hg).2 e.symm
    have r7 := r6.only H7.out.2 fun g hg e => (hne g hg).2 e.symm
    exact r7.only H8.out.2 fun g hg e => e.elim (fun e => (hne g hg).1 e.symm) fun e => (hne g hg).2 e.symm)
  obtain ⟨g, off, cp, e, hg, hcell, _⟩ := R8.out.at_ (j := 0) (by decide)
  injection e with e e2 e3
  subst e
  clear e2 e3
  have q0 : w8.cell? ⟨g, off, none⟩ = some (.int .i64 3145729) := by have := hcell 0 _ rfl; rwa [Nat.zero_mul, Nat.add_zero] at this
  have q1 : w8.cell? ⟨g, off + 1, none⟩ = some (.string ⟨#[97]⟩) := by have := hcell 1 _ rfl; rwa [Nat.zero_mul, Nat.add_zero] at this
  have q2 : w8.cell? ⟨g, off + 2, none⟩ = some (.int .i64 201) := by have := hcell 2 _ rfl; rwa [Nat.zero_mul, Nat.add_zero] at this
  have q3 : w8.cell? ⟨g, off + 3, none⟩ = some (.int .i64 5) := by have := hcell 3 _ rfl; rwa [Nat.zero_mul, Nat.add_zero] at this
  have q4 : w8.cell? ⟨g, off + 4, none⟩ = some (.int .i64 10) := by have := hcell 4 _ rfl; rwa [Nat.zero_mul, Nat.add_zero] at this
  have q5 : w8.cell? ⟨g, off + 5, none⟩ = some (.int .i64 14) := by have := hcell 5 _ rfl; rwa [Nat.zero_mul, Nat.add_zero] at this
  have q6 : w8.cell? ⟨g, off + 6, none⟩ = some (.bool true) := by have := hcell 6 _ rfl; rwa [Nat.zero_mul, Nat.add_zero] at this
  clear hcell
  go_wp2_with fail
  go_ret
  refine ⟨rfl, ?_⟩
  have o1 := H1.out.2.2.2
  have hB := H1.out.2.1
  have hM := H1.out.2.2.1
  have l2 := o1.trans2 H2.out.2 fun k hk e => by omega
  have l3 := l2.trans2 H3.out.2 fun k hk e => by omega
  have l4 := l3.trans2 H4.out.2 fun k hk e => by omega
  have l5 := l4.trans2 H5.out.2.1 fun k hk e => by omega
  have l6 := l5.trans2 H6.out.2 fun k hk e => by omega
  have l7 := l6.trans2 H7.out.2 fun k hk e => by omega
  have l8 := l7.trans2 H8.out.2 fun k hk e => by omega
  exact l8.alloc _
end Go.Proofs.Ytehoiapadnbklaa
