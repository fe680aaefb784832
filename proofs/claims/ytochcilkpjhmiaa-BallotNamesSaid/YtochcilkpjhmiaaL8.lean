/- The walk of butterylaw15.BallotNames (closed). -/
import Derived.Test.YtochcilkpjhmiaaL4
import Derived.Test.YtochcilkpjhmiaaL7
namespace Go.Proofs.Ytochcilkpjhmiaa
open Go.RowKit

theorem turn_lit (W : World) (xs : List Int) (hx : xs.length ≤ 1000) (s : Int) (L : List Int) (E : Int) (hL : turnL xs s = L) (hE : turnE xs s = E) :
    Calls Try.prog 16 #[.slice (some ⟨W.heap.size, 0, none⟩) xs.length xs.length, .int .i64 s] (W.alloc (.cells (xs.map (Value.int .i64)).toArray 3)) fun e w' => (∃ p c, e = .returned (.tuple #[.slice p L.length c, .int .i64 E]) ∧ OI (W.heap.size + 1) w' p L.length c L) ∧ Below W.heap.size W w' := by
  subst hL; subst hE
  refine (turn_any _ _ _ xs s _ (ri_new W xs hx) (by omega)).mono ?_
  rintro e w' ⟨⟨p, c, he, ho⟩, hb⟩
  rw [World.size_alloc] at ho hb
  exact ⟨⟨p, c, he, ho⟩, ((Below.refl _ _).alloc (Nat.le_refl _) _).trans (hb.mono (by omega))⟩

theorem ri_nil (w : World) : RI w none 0 0 [] := ⟨rfl, Nat.le_refl _, Nat.zero_le _, fun _ => rfl, fun a ha => by cases ha⟩

set_option maxRecDepth 100000 in
set_option maxHeartbeats 4000000 in
theorem names_walk (w : World) : Calls Try.prog 10 #[] w fun e w' => e = .returned (.bool true) ∧ Below w.heap.size w w' := by
  have t1 := Lib.hid (show turnL [1, 2] 3 = [1, 2, 3] by decide)
  have t1e := Lib.hid (show turnE [1, 2] 3 = 0 by decide)
  have t2 := Lib.hid (show turnL [1, 2] 1 = [2] by decide)
  have t2e := Lib.hid (show turnE [1, 2] 1 = 0 by decide)
  have t3 := Lib.hid (show turnL [1] 1 = [] by decide)
  have t3e := Lib.hid (show turnE [1] 1 = 50 by decide)
  have t4 := Lib.hid (show turnL [2, 1] 3 = [] by decide)
  have t4e := Lib.hid (show turnE [2, 1] 3 = 1 by decide)
  have t5 := Lib.hid (show turnL [1] 6 = [] by decide)
  have t5e := Lib.hid (show turnE [1] 6 = 1 by decide)
  have t6 := Lib.hid (show turnL [] 1 = [] by decide)
  have t6e := Lib.hid (show turnE [] 1 = 1 by decide)
  have m1 := Lib.hid (show newerB 2 1 1 9 = true by decide)
  have m2 := Lib.hid (show newerB 1 3 1 3 = true by decide)
  have m3 := Lib.hid (show newerB 1 2 1 3 = false by decide)
  have g1 := Lib.hid (show grantsB 3 0 3 1 true = true by decide)
  have g2 := Lib.hid (show grantsB 3 2 4 1 true = true by decide)
  have g3 := Lib.hid (show grantsB 3 2 3 1 true = false by decide)
  have g4 := Lib.hid (show grantsB 3 0 2 1 true = false by decide)
  have g5 := Lib.hid (show grantsB 3 0 3 1 false = false by decide)
  have g6 := Lib.hid (show grantsB 3 0 3 0 true = false by decide)
  have k1 := Lib.hid (show chkB [1, 2, 3, 4, 5] = true by decide)
  have k2 := Lib.hid (show chkB [6] = false by decide)
  have k3 := Lib.hid (show chkB [0] = false by decide)
  have k4 := Lib.hid (show chkB [] = false by decide)
  have o1 := Lib.hid (won_eval [1] [1] true (by decide))
  have o2 := Lib.hid (won_eval [1, 1, 2] [1] false (by decide))
  have o3 := Lib.hid (won_eval [] [1] false (by decide))
  have c1 := Lib.hid (common_eval [2, 3] [9, 4] 0 (by decide))
  have c2 := Lib.hid (common_eval [1, 2] [9, 4] 4 (by decide))
  have c3 := Lib.hid (common_eval [] [9] 0 (by decide))
  go_enter Try.func10, Try.ntmps10
  go_wp2_with fail
  refine (works_any _).mono ?_
  rintro e w1 ⟨rfl, h1⟩
  have B1 := Lib.hid h1
  clear h1
  go_wp2_with fail
  refine (turn_lit w1 [1, 2] (by decide) 3 [1, 2, 3] 0 t1.out t1e.out).mono ?_
  rintro e w2 ⟨⟨pa, ca, rfl, hoa⟩, h2⟩
  have B2 := Lib.hid (B1.out.trans (h2.mono B1.out.size))
  obtain ⟨ga, ee, qa⟩ := oi_at hoa 2 (by decide)
  cases ee
  replace qa : w2.cell? ⟨ga, 2, none⟩ = some (.int .i64 3) := qa
  have ga2 := (World.block_lt_of_cell? _ _ qa)
  clear hoa
  clear h2
  go_wp2_with fail
  refine (turn_lit w2 [1, 2] (by decide) 1 [2] 0 t2.out t2e.out).mono ?_
  rintro e w3 ⟨⟨pb, cb, rfl, hob⟩, h3⟩
  have B3 := Lib.hid (B2.out.trans (h3.mono B2.out.size))
  obtain ⟨gb, ee, qb⟩ := oi_at hob 0 (by decide)
  cases ee
  replace qb : w3.cell? ⟨gb, 0, none⟩ = some (.int .i64 2) := qb
  have gb3 := (World.block_lt_of_cell? _ _ qb)
  clear hob
  replace qa : w3.cell? ⟨ga, 2, none⟩ = some (.int .i64 3) := by rw [h3.cell ga2]; exact qa
  replace ga2 := Nat.lt_of_lt_of_le ga2 h3.size
  clear h3
  go_wp2_with fail
  refine (turn_lit w3 [1] (by decide) 1 [] 50 t3.out t3e.out).mono ?_
  rintro e w4 ⟨⟨p3, c3', rfl, ho⟩, h4⟩
  have B4 := Lib.hid (B3.out.trans (h4.mono B3.out.size))
  replace qa : w4.cell? ⟨ga, 2, none⟩ = some (.int .i64 3) := by rw [h4.cell ga2]; exact qa
  replace ga2 := Nat.lt_of_lt_of_le ga2 h4.size
  replace qb : w4.cell? ⟨gb, 0, none⟩ = some (.int .i64 2) := by rw [h4.cell gb3]; exact qb
  replace gb3 := Nat.lt_of_lt_of_le gb3 h4.size
  clear ho
  clear h4
  go_wp2_with fail
  refine (turn_lit w4 [2, 1] (by decide) 3 [] 1 t4.out t4e.out).mono ?_
  rintro e w5 ⟨⟨p4, c4', rfl, ho⟩, h5⟩
  have B5 := Lib.hid (B4.out.trans (h5.mono B4.out.size))
  replace qa : w5.cell? ⟨ga, 2, none⟩ = some (.int .i64 3) := by rw [h5.cell ga2]; exact qa
  replace ga2 := Nat.lt_of_lt_of_le ga2 h5.size
  replace qb : w5.cell? ⟨gb, 0, none⟩ = some (.int .i64 2) := by rw [h5.cell gb3]; exact qb
  replace gb3 := Nat.lt_of_lt_of_le gb3 h5.size
  clear ho
  clear h5
  go_wp2_with fail
  refine (turn_lit w5 [1] (by decide) 6 [] 1 t5.out t5e.out).mono ?_
  rintro e w6 ⟨⟨p5, c5', rfl, ho⟩, h6⟩
  have B6 := Lib.hid (B5.out.trans (h6.mono B5.out.size))
  replace qa : w6.cell? ⟨ga, 2, none⟩ = some (.int .i64 3) := by rw [h6.cell ga2]; exact qa
  replace ga2 := Nat.lt_of_lt_of_le ga2 h6.size
  replace qb : w6.cell? ⟨gb, 0, none⟩ = some (.int .i64 2) := by rw [h6.cell gb3]; exact qb
  replace gb3 := Nat.lt_of_lt_of_le gb3 h6.size
  clear ho
  clear h6
  go_wp2_with fail
  refine (turn_any none 0 0 [] 1 _ (ri_nil _) (by omega)).mono ?_
  rintro e w7 ⟨⟨p6, c6', rfl, ho⟩, h7⟩
  rw [t6.out, t6e.out]
  have B7 := Lib.hid (B6.out.trans (h7.mono B6.out.size))
  replace qa : w7.cell? ⟨ga, 2, none⟩ = some (.int .i64 3) := by rw [h7.cell ga2]; exact qa
  replace ga2 := Nat.lt_of_lt_of_le ga2 h7.size
  replace qb : w7.cell? ⟨gb, 0, none⟩ = some (.int .i64 2) := by rw [h7.cell gb3]; exact qb
  replace gb3 := Nat.lt_of_lt_of_le gb3 h7.size
  clear ho
  clear h7
  go_wp2_with fail
  refine (won_lit w7 [1] [1] (by decide) (by decide) true o1.out).mono ?_
  rintro e w8 ⟨rfl, h8⟩
  have B8 := Lib.hid (B7.out.trans (h8.mono B7.out.size))
  clear h8
  go_wp2_with fail
  refine (won_lit w8 [1, 1, 2] [1] (by decide) (by decide) false o2.out).mono ?_
  rintro e w9 ⟨rfl, h9⟩
  have B9 := Lib.hid (B8.out.trans (h9.mono B8.out.size))
  clear h9
  go_wp2_with fail
  refine (bstep (w0 := w9) ((Below.refl _ _).alloc (Nat.le_refl _) _) (Nat.le_refl _) (won_any none (some ⟨w9.heap.size, 0, none⟩) 0 1 0 1 [] [1] _ (ri_nil _) (ri_new w9 [1] (by decide)) (by omega) (by omega))).mono ?_
  rintro e w10 ⟨rfl, h10⟩
  have B10 := Lib.hid (B9.out.trans (h10.mono B9.out.size))
  rw [o3.out]
  clear h10
  go_wp2_with fail
  refine (common_lit w10 [2, 3] [9, 4] (by decide) (by decide) 0 c1.out).mono ?_
  rintro e w11 ⟨rfl, h11⟩
  have B11 := Lib.hid (B10.out.trans (h11.mono B10.out.size))
  clear h11
  go_wp2_with fail
  refine (common_lit w11 [1, 2] [9, 4] (by decide) (by decide) 4 c2.out).mono ?_
  rintro e w12 ⟨rfl, h12⟩
  have B12 := Lib.hid (B11.out.trans (h12.mono B11.out.size))
  clear h12
  go_wp2_with fail
  refine (bstep (w0 := w12) ((Below.refl _ _).alloc (Nat.le_refl _) _) (Nat.le_refl _) (common_any none (some ⟨w12.heap.size, 0, none⟩) 0 1 0 1 [] [9] _ (ri_nil _) (ri_new w12 [9] (by decide)) (by omega) (by omega))).mono ?_
  rintro e w13 ⟨rfl, h13⟩
  have B13 := Lib.hid (B12.out.trans (h13.mono B12.out.size))
  rw [c3.out]
  clear h13
  go_wp2_with fail
  refine (newer_below 2 1 1 9 _).mono ?_
  rintro e w14 ⟨rfl, h14⟩
  have B14 := Lib.hid (B13.out.trans (h14.mono B13.out.size))
  rw [m1.out]
  clear h14
  go_wp2_with fail
  refine (newer_below 1 3 1 3 _).mono ?_
  rintro e w15 ⟨rfl, h15⟩
  have B15 := Lib.hid (B14.out.trans (h15.mono B14.out.size))
  rw [m2.out]
  clear h15
  go_wp2_with fail
  refine (newer_below 1 2 1 3 _).mono ?_
  rintro e w16 ⟨rfl, h16⟩
  have B16 := Lib.hid (B15.out.trans (h16.mono B15.out.size))
  rw [m3.out]
  clear h16
  go_wp2_with fail
  refine (grants_any 3 0 3 1 true _).mono ?_
  rintro e w' ⟨rfl, rfl⟩
  rw [g1.out]
  go_wp2_with fail
  refine (grants_any 3 2 4 1 true _).mono ?_
  rintro e w' ⟨rfl, rfl⟩
  rw [g2.out]
  go_wp2_with fail
  refine (grants_any 3 2 3 1 true _).mono ?_
  rintro e w' ⟨rfl, rfl⟩
  rw [g3.out]
  go_wp2_with fail
  refine (grants_any 3 0 2 1 true _).mono ?_
  rintro e w' ⟨rfl, rfl⟩
  rw [g4.out]
  go_wp2_with fail
  refine (grants_any 3 0 3 1 false _).mono ?_
  rintro e w' ⟨rfl, rfl⟩
  rw [g5.out]
  go_wp2_with fail
  refine (grants_any 3 0 3 0 true _).mono ?_
  rintro e w' ⟨rfl, rfl⟩
  rw [g6.out]
  go_wp2_with fail
  refine (patience_any 10 3 _ (by omega) (by omega) (by omega) (by omega)).mono ?_
  rintro e w' ⟨rfl, rfl⟩
  go_wp2_with fail
  refine (patience_any 10 1 _ (by omega) (by omega) (by omega) (by omega)).mono ?_
  rintro e w' ⟨rfl, rfl⟩
  go_wp2_with fail
  refine (check_lit w16 [1, 2, 3, 4, 5] (by decide) true k1.out).mono ?_
  rintro e w17 ⟨rfl, h17⟩
  have B17 := Lib.hid (B16.out.trans (h17.mono B16.out.size))
  clear h17
  go_wp2_with fail
  refine (check_lit w17 [6] (by decide) false k2.out).mono ?_
  rintro e w18 ⟨rfl, h18⟩
  have B18 := Lib.hid (B17.out.trans (h18.mono B17.out.size))
  clear h18
  go_wp2_with fail
  refine (check_lit w18 [0] (by decide) false k3.out).mono ?_
  rintro e w19 ⟨rfl, h19⟩
  have B19 := Lib.hid (B18.out.trans (h19.mono B18.out.size))
  clear h19
  go_wp2_with fail
  refine (check_any none 0 0 [] _ (ri_nil _) (by omega)).mono ?_
  rintro e w20 ⟨rfl, h20⟩
  have B20 := Lib.hid (B19.out.trans (h20.mono B19.out.size))
  rw [k4.out]
  clear h20
  go_wp2_with fail
  go_ret
  exact ⟨rfl, B20.out⟩

end Go.Proofs.Ytochcilkpjhmiaa
