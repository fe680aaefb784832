/- The document's Common (butteryref15): the contract; it is what ballot.Common computes. -/
import Derived.Test.YtochcilkpjhmiaaC4
import Derived.Test.YtochcilkpjhmiaaB5
namespace Go.Proofs.Ytochcilkpjhmiaa
open Go.RowKit

theorem okV_1 (at' : List Int) (x v : Int) (h : ¬ 1 ≤ v) : okV at' x v = false := by unfold okV; simp; omega
theorem okV_2 (at' : List Int) (x v : Int) (h : ¬ v ≤ at'.length) : okV at' x v = false := by unfold okV; simp; omega
theorem okV_3 (at' : List Int) (x v : Int) (h : ¬ x ≤ nth at' (v.toNat - 1)) : okV at' x v = false := by unfold okV; simp; omega
theorem okV_4 (at' : List Int) (x v : Int) (h1 : 1 ≤ v) (h2 : v ≤ at'.length) (h : x ≤ nth at' (v.toNat - 1)) : okV at' x v = true := by unfold okV; simp; omega
theorem best_yes (at' l : List Int) (k m : Nat) (hm : m = majC at' l (nth at' k)) (h1 : (l.length : Int) - (m : Int) < (m : Int)) (h2 : bestUp at' l k < nth at' k) : bestUp at' l (k + 1) = nth at' k := by
  subst hm; simp [bestUp, h1, h2]
theorem best_no1 (at' l : List Int) (k m : Nat) (hm : m = majC at' l (nth at' k)) (h1 : ¬ (l.length : Int) - (m : Int) < (m : Int)) : bestUp at' l (k + 1) = bestUp at' l k := by
  subst hm; simp [bestUp, h1]
theorem best_no2 (at' l : List Int) (k : Nat) (h2 : ¬ bestUp at' l k < nth at' k) : bestUp at' l (k + 1) = bestUp at' l k := by
  simp [bestUp, h2]

set_option maxHeartbeats 2000000 in
theorem refCommon_any (p p' : Option Addr) (n n' cap cap' : Nat) (vs at' : List Int) (w : World) (h : RI w p n cap vs) (h' : RI w p' n' cap' at') (hbig : n * 8 ≤ 140737488355328) (hbig' : n' * 8 ≤ 140737488355328) :
    Calls Try.prog 26 #[.slice p n cap, .slice p' n' cap'] w fun e w' => e = .returned (.int .i64 (refCommonI vs at')) ∧ Below w.heap.size w w' := by
  have l1 := once_len vs
  have hl := h.1
  have la : (once vs).length ≤ n := by omega
  have H := Lib.hid h
  have H' := Lib.hid h'
  have hs' := ri_shape h'
  have HLEN' := Lib.hid h'.1
  clear h h' l1 hl
  rcases hs' with rfl | ⟨b', off', rfl⟩
  all_goals
    go_enter Try.func26, Try.ntmps26
    go_wp2_with fail
    refine (once_any _ _ _ vs _ H.out hbig).mono ?_
    rintro e w1 ⟨p1, c1, rfl, ho, hbel⟩
    have HB1 := Lib.hid hbel
    have HV := Lib.hid (H'.out.below hbel)
    have HX := Lib.hid ho
    clear ho hbel
    rcases oi_shape HX.out with rfl | ⟨g1, rfl⟩
    all_goals
      go_wp2_with fail
      go_loopw [6, 7] (fun v i wr => ∃ k q : Nat, k ≤ n' ∧ i = .int .i64 k ∧ v = .int .i64 (bestUp at' (once vs) k) ∧ wr = w1.drewN q) (fun _ i _ => n' - (intOf i).toNat)
      case atStart => exact ⟨0, 0, by omega, rfl, rfl, rfl⟩
      case round =>
        obtain ⟨k, q, hk, rfl, rfl, rfl⟩ := hrel
        by_cases hlt : k < n'
        · obtain ⟨bq, oq, ee, hcat⟩ := ri_at HV.out k hlt
          cases ee
          all_goals
            have hkn : (k : Int) < n' := by omega
            go_wp2_with fail
            go_loopw [8, 9] (fun n i wr => ∃ j q : Nat, j ≤ (once vs).length ∧ i = .int .i64 j ∧ n = .int .i64 (cnt (once vs) (okV at' (nth at' k)) j) ∧ wr = w1.drewN q) (fun _ i _ => (once vs).length - (intOf i).toNat)
            case atStart => exact ⟨0, q, by omega, rfl, by rw [cnt_zero]; rfl, rfl⟩
            case round =>
              obtain ⟨j, q2, hj, rfl, rfl, rfl⟩ := hrel
              have hcl := cnt_le (once vs) (okV at' (nth at' k)) j
              by_cases hlt2 : j < (once vs).length
              · obtain ⟨gg, ee, hcell⟩ := oi_at HX.out j hlt2
                cases ee
                all_goals
                  have hjn : (j : Int) < ((once vs).length : Int) := by omega
                  by_cases d1 : 1 ≤ nth (once vs) j
                  · by_cases d2 : nth (once vs) j ≤ (n' : Int)
                    · obtain ⟨bq, oq, ee, hcv⟩ := ri_at HV.out ((nth (once vs) j).toNat - 1) (by omega)
                      cases ee
                      have x0 : (0 : Int) ≤ nth (once vs) j - 1 := by omega
                      have x1 : nth (once vs) j - 1 < (n' : Int) := by omega
                      by_cases d3 : nth at' k ≤ nth at' ((nth (once vs) j).toNat - 1)
                      · have HYY := Lib.hid (cnt_yes (once vs) (okV at' (nth at' k)) j hlt2 (okV_4 _ _ _ d1 (by have := HLEN'.out; omega) d3))
                        go_wp2_with fail
                        go_quiet (fail)
                        go_wp2
                        go_roundw
                        case rel => exact ⟨j + 1, _, by omega, by go_num, by rw [HYY.out]; go_num, rfl⟩
                        case measure => simp [intOf]; omega
                      · have HYY := Lib.hid (cnt_no (once vs) (okV at' (nth at' k)) j hlt2 (okV_3 _ _ _ d3))
                        have d3' : decide (nth at' k ≤ nth at' ((nth (once vs) j).toNat - 1)) = false := by simp; omega
                        go_wp2_with fail
                        go_quiet (fail)
                        go_wp2
                        go_roundw
                        case rel => exact ⟨j + 1, _, by omega, by go_num, by rw [HYY.out], rfl⟩
                        case measure => simp [intOf]; omega
                    · have HYY := Lib.hid (cnt_no (once vs) (okV at' (nth at' k)) j hlt2 (okV_2 _ _ _ (by have := HLEN'.out; omega)))
                      have d2' : decide (nth (once vs) j ≤ (n' : Int)) = false := by simp; omega
                      go_wp2_with fail
                      go_quiet (fail)
                      go_wp2
                      go_roundw
                      case rel => exact ⟨j + 1, _, by omega, by go_num, by rw [HYY.out], rfl⟩
                      case measure => simp [intOf]; omega
                  · have HYY := Lib.hid (cnt_no (once vs) (okV at' (nth at' k)) j hlt2 (okV_1 _ _ _ d1))
                    have d1' : decide (1 ≤ nth (once vs) j) = false := by simp; omega
                    go_wp2_with fail
                    go_quiet (fail)
                    go_wp2
                    go_roundw
                    case rel => exact ⟨j + 1, _, by omega, by go_num, by rw [HYY.out], rfl⟩
                    case measure => simp [intOf]; omega
              · obtain ⟨m, hm⟩ : ∃ m, m = cnt (once vs) (okV at' (nth at' k)) j := ⟨_, rfl⟩
                have HM : Hid (m = majC at' (once vs) (nth at' k)) := by show _ = _; rw [hm, cnt_all _ _ j (by omega)]; rfl
                rw [← hm]
                rw [← hm] at hcl
                clear hm
                have hjl : j ≤ 17592186044416 := by omega
                by_cases e1 : ((once vs).length : Int) - (m : Int) < (m : Int)
                · by_cases e2 : bestUp at' (once vs) k < nth at' k
                  · have HY := Lib.hid (best_yes at' (once vs) k m HM.out e1 e2)
                    go_wp2
                    go_roundw
                    case rel => exact ⟨k + 1, q2, by omega, by go_num, by rw [HY.out], rfl⟩
                    case measure => simp [intOf]; omega
                  · have HY := Lib.hid (best_no2 at' (once vs) k e2)
                    go_wp2
                    go_roundw
                    case rel => exact ⟨k + 1, q2, by omega, by go_num, by rw [HY.out], rfl⟩
                    case measure => simp [intOf]; omega
                · have HY := Lib.hid (best_no1 at' (once vs) k m HM.out e1)
                  go_wp2
                  go_roundw
                  case rel => exact ⟨k + 1, q2, by omega, by go_num, by rw [HY.out], rfl⟩
                  case measure => simp [intOf]; omega
        · have HK : Hid (k = at'.length) := by have := HLEN'.out; show _ = _; omega
          go_wp2
          go_ret
          exact ⟨by unfold refCommonI; rw [← HK.out]; rfl, below_drewN HB1.out _⟩

end Go.Proofs.Ytochcilkpjhmiaa
