/- The walk of butterylaw15.BallotMeets. -/
import Derived.Test.YtochcilkpjhmiaaL4
import Derived.Test.YtochcilkpjhmiaaL6
namespace Go.Proofs.Ytochcilkpjhmiaa
open Go.RowKit

theorem turnL_len (vs : List Int) (s : Int) : (turnL vs s).length ≤ 5 := by unfold turnL; split; exact outUp_len vs s 5; simp
theorem turnE_two (vs : List Int) (s : Int) (h : turnOk vs s = true) : turnE vs s = 0 ∨ turnE vs s = 50 := by rw [turnE_yes vs s h]; split <;> simp

set_option maxHeartbeats 1000000 in
theorem meets_walk (p p3 p4 : Option Addr) (n n3 n4 cap c3 c4 : Nat) (st : Int) (vs a b : List Int) (w : World) (h : RI w p n cap vs) (h3 : RI w p3 n3 c3 a) (h4 : RI w p4 n4 c4 b) (hbig : n * 8 ≤ 140737488351232) :
    Calls Try.prog 9 #[.slice p n cap, .int .i64 st, .slice p3 n3 c3, .slice p4 n4 c4] w fun e w' => e = .returned (.bool true) ∧ Below w.heap.size w w' := by
  have H := Lib.hid h
  have H3 := Lib.hid h3
  have H4 := Lib.hid h4
  have hb1 : n * 8 ≤ 140737488355328 := by omega
  have hb1' : (n + 1) * 8 ≤ 140737488355328 := by omega
  clear h h3 h4
  by_cases hl : (n3 ≤ 200 ∧ n4 ≤ 200)
  · have HLG := Lib.hid (longB_no n3 n4 hl.1 hl.2)
    have hb3 : n3 * 8 ≤ 140737488355328 := by omega
    have hb4 : n4 * 8 ≤ 140737488355328 := by omega
    clear hl
    cases hc : chkB vs with
    | false =>
      have HC := Lib.hid hc
      clear hc
      go_enter Try.func9, Try.ntmps9
      go_wp2_with fail
      refine (works_any _).mono ?_
      rintro e w1 ⟨rfl, g1⟩
      go_wp2_with fail
      refine (long_any _ _ n3 n4 _ _ _).mono ?_
      rintro e w' ⟨rfl, rfl⟩
      rw [HLG.out]
      go_wp2_with fail
      refine (bstep g1 (Nat.le_refl _) (check_any _ _ _ vs _ (H.out.below g1) hb1)).mono ?_
      rintro e w2 ⟨rfl, g2⟩
      rw [HC.out]
      go_wp2_with fail
      refine (bstep g2 (Nat.le_refl _) (works_any _)).mono ?_
      rintro e w3 ⟨rfl, g3⟩
      go_wp2_with fail
      go_ret
      exact ⟨rfl, g3⟩
    | true =>
      have HC := Lib.hid hc
      obtain ⟨K, hK, hK0, hK1⟩ := rem_ex st 5 (by omega) (by omega)
      have hok : turnOk vs (1 + K) = true := (turnOk_iff _ _).2 ⟨hc, by omega, by omega⟩
      have N0 := Lib.hid (near_self vs)
      have NT := Lib.hid (near_turn vs (1 + K) hok)
      have htl := turnL_len vs (1 + K)
      rcases turnE_two vs (1 + K) hok with hE | hE
      · have HE := Lib.hid hE
        have N1 := Lib.hid NT.out.1
        have N2 := Lib.hid NT.out.2
        have hbo : (turnL vs (1 + K)).length * 8 ≤ 140737488355328 := by omega
        clear hc hok hE
        go_enter Try.func9, Try.ntmps9
        go_wp2_with fail
        refine (works_any _).mono ?_
        rintro e w1 ⟨rfl, g1⟩
        go_wp2_with fail
        refine (long_any _ _ n3 n4 _ _ _).mono ?_
        rintro e w' ⟨rfl, rfl⟩
        rw [HLG.out]
        go_wp2_with fail
        refine (bstep g1 (Nat.le_refl _) (check_any _ _ _ vs _ (H.out.below g1) hb1)).mono ?_
        rintro e w2 ⟨rfl, g2⟩
        rw [HC.out]
        go_wp2_with fail
        refine (turn_any _ _ _ vs (1 + K) _ (H.out.below g2) hb1').mono ?_
        rintro e wt ⟨⟨px, cx, rfl, hox⟩, gt⟩
        rw [HE.out]
        have HV := Lib.hid (H.out.below (g2.trans (gt.mono g2.size)))
        have HA := Lib.hid (H3.out.below (g2.trans (gt.mono g2.size)))
        have HB := Lib.hid (H4.out.below (g2.trans (gt.mono g2.size)))
        have BW := Lib.hid (g2.trans (gt.mono g2.size))
        have HO := Lib.hid hox.ri
        have g3 : Below wt.heap.size wt wt := Below.refl _ _
        clear g1 g2 gt hox
        go_wp2_with fail
        refine (bstep g3 (Nat.le_refl _) (near_any _ _ _ _ _ _ vs (turnL vs (1 + K)) _ (HV.out.below g3) (HO.out.below g3) hb1 hbo)).mono ?_
        rintro e w4 ⟨rfl, g4⟩
        rw [N1.out]
        go_wp2_with fail
        refine (bstep g4 (Nat.le_refl _) (near_any _ _ _ _ _ _ (turnL vs (1 + K)) vs _ (HO.out.below g4) (HV.out.below g4) hbo hb1)).mono ?_
        rintro e w5 ⟨rfl, g5⟩
        rw [N2.out]
        go_wp2_with fail
        refine (bstep g5 (Nat.le_refl _) (near_any _ _ _ _ _ _ vs vs _ (HV.out.below g5) (HV.out.below g5) hb1 hb1)).mono ?_
        rintro e w6 ⟨rfl, g6⟩
        rw [N0.out]
        go_wp2_with fail
        refine (bstep g6 (Nat.le_refl _) (meet_any _ _ _ _ _ _ _ _ _ _ _ _ vs vs a b _ (HV.out.below g6) (HV.out.below g6) (HA.out.below g6) (HB.out.below g6) hb1 hb1 hb3 hb4 N0.out)).mono ?_
        rintro e w7 ⟨rfl, g7⟩
        go_wp2_with fail
        refine (bstep g7 (Nat.le_refl _) (meet_any _ _ _ _ _ _ _ _ _ _ _ _ vs (turnL vs (1 + K)) a b _ (HV.out.below g7) (HO.out.below g7) (HA.out.below g7) (HB.out.below g7) hb1 hbo hb3 hb4 N1.out)).mono ?_
        rintro e w8 ⟨rfl, g8⟩
        go_wp2_with fail
        refine (bstep g8 (Nat.le_refl _) (meet_any _ _ _ _ _ _ _ _ _ _ _ _ (turnL vs (1 + K)) vs a b _ (HO.out.below g8) (HV.out.below g8) (HA.out.below g8) (HB.out.below g8) hbo hb1 hb3 hb4 N2.out)).mono ?_
        rintro e w9 ⟨rfl, g9⟩
        go_wp2_with fail
        go_ret
        exact ⟨rfl, BW.out.trans (g9.mono BW.out.size)⟩
      · have HE := Lib.hid hE
        have N1 := Lib.hid N0.out
        have N2 := Lib.hid N0.out
        have hbo := hb1
        clear hc hok hE
        go_enter Try.func9, Try.ntmps9
        go_wp2_with fail
        refine (works_any _).mono ?_
        rintro e w1 ⟨rfl, g1⟩
        go_wp2_with fail
        refine (long_any _ _ n3 n4 _ _ _).mono ?_
        rintro e w' ⟨rfl, rfl⟩
        rw [HLG.out]
        go_wp2_with fail
        refine (bstep g1 (Nat.le_refl _) (check_any _ _ _ vs _ (H.out.below g1) hb1)).mono ?_
        rintro e w2 ⟨rfl, g2⟩
        rw [HC.out]
        go_wp2_with fail
        refine (turn_any _ _ _ vs (1 + K) _ (H.out.below g2) hb1').mono ?_
        rintro e wt ⟨⟨px, cx, rfl, hox⟩, gt⟩
        rw [HE.out]
        have HV := Lib.hid (H.out.below (g2.trans (gt.mono g2.size)))
        have HA := Lib.hid (H3.out.below (g2.trans (gt.mono g2.size)))
        have HB := Lib.hid (H4.out.below (g2.trans (gt.mono g2.size)))
        have BW := Lib.hid (g2.trans (gt.mono g2.size))
        have HO := Lib.hid HV.out
        have g3 : Below wt.heap.size wt wt := Below.refl _ _
        clear g1 g2 gt hox
        go_wp2_with fail
        refine (bstep g3 (Nat.le_refl _) (near_any _ _ _ _ _ _ vs vs _ (HV.out.below g3) (HO.out.below g3) hb1 hbo)).mono ?_
        rintro e w4 ⟨rfl, g4⟩
        rw [N1.out]
        go_wp2_with fail
        refine (bstep g4 (Nat.le_refl _) (near_any _ _ _ _ _ _ vs vs _ (HO.out.below g4) (HV.out.below g4) hbo hb1)).mono ?_
        rintro e w5 ⟨rfl, g5⟩
        rw [N2.out]
        go_wp2_with fail
        refine (bstep g5 (Nat.le_refl _) (near_any _ _ _ _ _ _ vs vs _ (HV.out.below g5) (HV.out.below g5) hb1 hb1)).mono ?_
        rintro e w6 ⟨rfl, g6⟩
        rw [N0.out]
        go_wp2_with fail
        refine (bstep g6 (Nat.le_refl _) (meet_any _ _ _ _ _ _ _ _ _ _ _ _ vs vs a b _ (HV.out.below g6) (HV.out.below g6) (HA.out.below g6) (HB.out.below g6) hb1 hb1 hb3 hb4 N0.out)).mono ?_
        rintro e w7 ⟨rfl, g7⟩
        go_wp2_with fail
        refine (bstep g7 (Nat.le_refl _) (meet_any _ _ _ _ _ _ _ _ _ _ _ _ vs vs a b _ (HV.out.below g7) (HO.out.below g7) (HA.out.below g7) (HB.out.below g7) hb1 hbo hb3 hb4 N1.out)).mono ?_
        rintro e w8 ⟨rfl, g8⟩
        go_wp2_with fail
        refine (bstep g8 (Nat.le_refl _) (meet_any _ _ _ _ _ _ _ _ _ _ _ _ vs vs a b _ (HO.out.below g8) (HV.out.below g8) (HA.out.below g8) (HB.out.below g8) hbo hb1 hb3 hb4 N2.out)).mono ?_
        rintro e w9 ⟨rfl, g9⟩
        go_wp2_with fail
        go_ret
        exact ⟨rfl, BW.out.trans (g9.mono BW.out.size)⟩
  · have HLG := Lib.hid (longB_yes n3 n4 hl)
    clear hl
    go_enter Try.func9, Try.ntmps9
    go_wp2_with fail
    refine (works_any _).mono ?_
    rintro e w1 ⟨rfl, g1⟩
    go_wp2_with fail
    refine (long_any _ _ n3 n4 _ _ _).mono ?_
    rintro e w' ⟨rfl, rfl⟩
    rw [HLG.out]
    go_wp2_with fail
    refine (bstep g1 (Nat.le_refl _) (works_any _)).mono ?_
    rintro e w2 ⟨rfl, g2⟩
    go_wp2_with fail
    go_ret
    exact ⟨rfl, g2⟩

end Go.Proofs.Ytochcilkpjhmiaa
