/- The document's functions on lists of numbers (butteryref15): Near, Turn, Common: their contracts. -/
import Derived.Test.YtochcilkpjhmiaaC3
namespace Go.Proofs.Ytochcilkpjhmiaa
open Go.RowKit

theorem ri_shape {w : World} {p : Option Addr} {n cap : Nat} {zs : List Int} (h : RI w p n cap zs) : p = none ∨ ∃ b off, p = some ⟨b, off, none⟩ := by
  rcases ri_cases h with ⟨h, _⟩ | ⟨b, off, h, _⟩
  · exact .inl h
  · exact .inr ⟨b, off, h⟩
theorem oi_shape {B : Nat} {w : World} {p : Option Addr} {n cap : Nat} {zs : List Int} (h : OI B w p n cap zs) : p = none ∨ ∃ b, p = some ⟨b, 0, none⟩ := by
  rcases oi_cases h with ⟨h, _⟩ | ⟨b, h, _⟩
  · exact .inl h
  · exact .inr ⟨b, h⟩
theorem ri_at {w : World} {p : Option Addr} {n cap : Nat} {zs : List Int} (h : RI w p n cap zs) (j : Nat) (hj : j < n) :
    ∃ b off, p = some ⟨b, off, none⟩ ∧ w.cell? ⟨b, off + j, none⟩ = some (.int .i64 (nth zs j)) := by
  rcases ri_cases h with ⟨_, h⟩ | ⟨b, off, h, _, hc⟩
  · omega
  · exact ⟨b, off, h, hc j hj⟩
theorem oi_at {B : Nat} {w : World} {p : Option Addr} {n cap : Nat} {zs : List Int} (h : OI B w p n cap zs) (j : Nat) (hj : j < n) :
    ∃ b, p = some ⟨b, 0, none⟩ ∧ w.cell? ⟨b, j, none⟩ = some (.int .i64 (nth zs j)) := by
  rcases oi_cases h with ⟨_, h⟩ | ⟨b, h, _, _, hc⟩
  · omega
  · exact ⟨b, h, hc j hj⟩

set_option maxHeartbeats 1000000 in
theorem refNear_any (p p' : Option Addr) (n n' cap cap' : Nat) (a b : List Int) (w : World) (h : RI w p n cap a) (h' : RI w p' n' cap' b) (hbig : n * 8 ≤ 140737488355328) (hbig' : n' * 8 ≤ 140737488355328) :
    Calls Try.prog 20 #[.slice p n cap, .slice p' n' cap'] w fun e w' => e = .returned (.bool (nearB a b)) ∧ Below w.heap.size w w' := by
  have l1 := once_len a
  have l2 := once_len b
  have hl := h.1
  have hl' := h'.1
  have la : (once a).length ≤ n := by omega
  have lb : (once b).length ≤ n' := by omega
  have H := Lib.hid h
  have H' := Lib.hid h'
  clear h h' l1 l2 hl hl'
  go_enter Try.func20, Try.ntmps20
  go_wp2_with fail
  refine (once_any _ _ _ a _ H.out hbig).mono ?_
  rintro e w1 ⟨p1, c1, rfl, ho, hbel⟩
  have HB1 := Lib.hid hbel
  have HO1 := Lib.hid ho
  clear ho hbel
  go_wp2_with fail
  refine (once_any _ _ _ b _ (H'.out.below HB1.out) hbig').mono ?_
  rintro e w2 ⟨p2, c2, rfl, ho, hbel⟩
  have HB2 := Lib.hid (HB1.out.trans (hbel.mono HB1.out.size))
  have HX := Lib.hid (HO1.out.below hbel)
  have HY := Lib.hid ho
  clear ho hbel
  rcases oi_shape HX.out with rfl | ⟨g1, rfl⟩
  all_goals
    rcases oi_shape HY.out with rfl | ⟨g2, rfl⟩
    all_goals
      go_wp2_with fail
      go_loop [5, 8] (fun n i => ∃ k : Nat, k ≤ (once a).length ∧ i = .int .i64 k ∧ n = .int .i64 (cnt (once a) (fun x => !hasB (once b) x) k)) (fun _ i => (once a).length - (intOf i).toNat)
      case atStart => exact ⟨0, by omega, rfl, by rw [cnt_zero]; rfl⟩
      case round =>
        obtain ⟨k, hk, rfl, rfl⟩ := hrel
        have hcl := cnt_le (once a) (fun x => !hasB (once b) x) k
        by_cases hlt : k < (once a).length
        · obtain ⟨gg, ee, hcell⟩ := oi_at HX.out k hlt
          cases ee
          all_goals
            cases he : hasB (once b) (nth (once a) k) with
            | false =>
              have HYY := Lib.hid (cnt_yes (once a) (fun x => !hasB (once b) x) k hlt (by simp [he]))
              have HE := Lib.hid he
              clear he
              go_wp2_with (go_at_call 35; refine (has_any _ _ _ (once b) _ _ HY.out.ri (by omega)).mono ?_; rintro e w' ⟨rfl, rfl⟩; rw [HE.out])
              go_round
              case rel => exact ⟨k + 1, by omega, by go_num, by rw [HYY.out]; go_num⟩
              case measure => simp [intOf]; omega
            | true =>
              have HYY := Lib.hid (cnt_no (once a) (fun x => !hasB (once b) x) k hlt (by simp [he]))
              have HE := Lib.hid he
              clear he
              go_wp2_with (go_at_call 35; refine (has_any _ _ _ (once b) _ _ HY.out.ri (by omega)).mono ?_; rintro e w' ⟨rfl, rfl⟩; rw [HE.out])
              go_round
              case rel => exact ⟨k + 1, by omega, by go_num, by rw [HYY.out]⟩
              case measure => simp [intOf]; omega
        · have hn1 : k = (once a).length := by omega
          have HK := Lib.hid hn1
          clear hn1
          obtain ⟨m1, hm1⟩ : ∃ m1, m1 = cnt (once a) (fun x => !hasB (once b) x) k := ⟨_, rfl⟩
          have HM1 : Hid (m1 = (once a).countP (fun x => !hasB (once b) x)) := by show _ = _; rw [hm1, cnt_all _ _ k (by have := HK.out; omega)]
          rw [← hm1]
          rw [← hm1] at hcl
          clear hm1
          go_wp2_with fail
          go_loop [5, 9] (fun n i => ∃ k : Nat, k ≤ (once b).length ∧ i = .int .i64 k ∧ n = .int .i64 (m1 + cnt (once b) (fun x => !hasB (once a) x) k : Nat)) (fun _ i => (once b).length - (intOf i).toNat)
          case atStart => exact ⟨0, by omega, rfl, by rw [cnt_zero]; rfl⟩
          case round =>
            obtain ⟨j, hj, rfl, rfl⟩ := hrel
            have hcl2 := cnt_le (once b) (fun x => !hasB (once a) x) j
            by_cases hlt2 : j < (once b).length
            · obtain ⟨gg, ee, hcell⟩ := oi_at HY.out j hlt2
              cases ee
              all_goals
                cases he : hasB (once a) (nth (once b) j) with
                | false =>
                  have HYY := Lib.hid (cnt_yes (once b) (fun x => !hasB (once a) x) j hlt2 (by simp [he]))
                  have HE := Lib.hid he
                  clear he
                  go_wp2_with (go_at_call 35; refine (has_any _ _ _ (once a) _ _ HX.out.ri (by omega)).mono ?_; rintro e w' ⟨rfl, rfl⟩; rw [HE.out])
                  go_round
                  case rel => exact ⟨j + 1, by omega, by go_num, by rw [HYY.out]; go_num⟩
                  case measure => simp [intOf]; omega
                | true =>
                  have HYY := Lib.hid (cnt_no (once b) (fun x => !hasB (once a) x) j hlt2 (by simp [he]))
                  have HE := Lib.hid he
                  clear he
                  go_wp2_with (go_at_call 35; refine (has_any _ _ _ (once a) _ _ HX.out.ri (by omega)).mono ?_; rintro e w' ⟨rfl, rfl⟩; rw [HE.out])
                  go_round
                  case rel => exact ⟨j + 1, by omega, by go_num, by rw [HYY.out]; go_num⟩
                  case measure => simp [intOf]; omega
            · have HF := Lib.hid (near_once a b m1 (cnt (once b) (fun x => !hasB (once a) x) j) HM1.out (by rw [cnt_all _ _ j (by omega)]))
              go_wp2
              go_ret
              exact ⟨by rw [← HF.out]; rfl, HB2.out⟩

theorem turnOk_chk (vs : List Int) (s : Int) (h : chkB vs = false) : turnOk vs s = false := by simp [turnOk, h]
theorem turnOk_low (vs : List Int) (s : Int) (h : s < 1) : turnOk vs s = false := by
  rw [Bool.eq_false_iff]; intro e; have := (turnOk_iff vs s).1 e; omega
theorem turnOk_high (vs : List Int) (s : Int) (h : 5 < s) : turnOk vs s = false := by
  rw [Bool.eq_false_iff]; intro e; have := (turnOk_iff vs s).1 e; omega

/-- what Turn hands back -/
def TurnPost (vs : List Int) (s : Int) (B : Nat) (e : Ending) (w' : World) : Prop :=
  ∃ p' cap', e = .returned (.tuple #[.slice p' (turnL vs s).length cap', .int .i64 (turnE vs s)]) ∧ OI B w' p' (turnL vs s).length cap' (turnL vs s)

theorem turnPost_no (vs : List Int) (s : Int) (B : Nat) (w : World) (h : turnOk vs s = false) : TurnPost vs s B (.returned (.tuple #[.slice none 0 0, .int .i64 1])) w := by
  refine ⟨none, 0, ?_, ?_⟩
  · rw [turnL_no vs s h, turnE_no vs s h]; rfl
  · rw [turnL_no vs s h]; exact World.ownsRow_nil _ _ _ _

set_option maxHeartbeats 1000000 in
theorem refTurn_any (p : Option Addr) (n cap : Nat) (vs : List Int) (s : Int) (w : World) (h : RI w p n cap vs) (hbig : n * 8 ≤ 140737488355328) :
    Calls Try.prog 17 #[.slice p n cap, .int .i64 s] w fun e w' => TurnPost vs s w.heap.size e w' ∧ Below w.heap.size w w' := by
  have H := Lib.hid h
  obtain ⟨i0, hi, hz0, hz1, hz2⟩ := info_parts Try.info3
  clear h
  cases hc : chkB vs with
  | false =>
    have HP := Lib.hid (fun w' => turnPost_no vs s w.heap.size w' (turnOk_chk vs s hc))
    have HC := Lib.hid hc
    clear hc
    go_enter Try.func17, Try.ntmps17
    go_wp2_with (go_at_call 22; refine (refCheck_any _ _ _ vs _ H.out hbig).mono ?_; rintro e w' ⟨rfl, q, rfl⟩; rw [HC.out])
    go_ret2
    exact ⟨HP.out _, below_drewN (Below.refl _ _) _⟩
  | true =>
    have HC := Lib.hid hc
    by_cases h1 : s < 1
    · have HP := Lib.hid (fun w' => turnPost_no vs s w.heap.size w' (turnOk_low vs s h1))
      clear hc
      go_enter Try.func17, Try.ntmps17
      go_wp2_with (go_at_call 22; refine (refCheck_any _ _ _ vs _ H.out hbig).mono ?_; rintro e w' ⟨rfl, q, rfl⟩; rw [HC.out])
      go_ret2
      exact ⟨HP.out _, below_drewN (Below.refl _ _) _⟩
    · by_cases h5 : 5 < s
      · have HP := Lib.hid (fun w' => turnPost_no vs s w.heap.size w' (turnOk_high vs s h5))
        clear hc
        go_enter Try.func17, Try.ntmps17
        go_wp2_with (go_at_call 22; refine (refCheck_any _ _ _ vs _ H.out hbig).mono ?_; rintro e w' ⟨rfl, q, rfl⟩; rw [HC.out])
        go_ret2
        exact ⟨HP.out _, below_drewN (Below.refl _ _) _⟩
      · have hok : turnOk vs s = true := (turnOk_iff vs s).2 ⟨hc, by omega, by omega⟩
        have HL := Lib.hid (turnL_yes vs s hok)
        have HE := Lib.hid (turnE_yes vs s hok)
        clear hc hok
        go_enter Try.func17, Try.ntmps17
        go_wp2_with (go_at_call 22; refine (refCheck_any _ _ _ vs _ H.out hbig).mono ?_; rintro e w' ⟨rfl, q, rfl⟩; rw [HC.out])
        go_loopw [6, 7] (fun v i wr => ∃ (k : Nat) (p' : Option Addr) (cap' : Nat), k ≤ 5 ∧ i = .int .i64 ((k : Int) + 1) ∧ v = .slice p' (outUp vs s k).length cap' ∧ OI w.heap.size wr p' (outUp vs s k).length cap' (outUp vs s k) ∧ Below w.heap.size w wr) (fun _ i _ => 6 - (intOf i).toNat)
        case atStart => exact ⟨0, none, 0, by omega, rfl, rfl, World.ownsRow_nil _ _ _ _, below_drewN (Below.refl _ _) _⟩
        case round =>
          obtain ⟨k, p', cap', hk, rfl, rfl, ho, hbel⟩ := hrel
          have HO := Lib.hid ho
          have HB := Lib.hid hbel
          have hsz := hbel.size
          have hlen := outUp_len vs s k
          by_cases hlt : k < 5
          · have hw0 : wr.ownsRow w.heap.size 3 1 (.slice p' (outUp vs s k).length cap') (outUp vs s k).length ((outUp vs s k).map (Value.int .i64)) := ho
            have HW := Lib.hid hw0
            have HR := Lib.hid (H.out.below hbel)
            clear ho hbel hw0
            cases he : flip vs s ((k : Int) + 1) with
            | false =>
              have HY := Lib.hid (outUp_no vs s k he)
              have he' : (!(hasB vs ((k : Int) + 1) == (((k : Int) + 1) == s))) = false := he
              clear he
              go_wp2_with (go_at_call 35; refine (has_any _ _ _ vs _ _ HR.out hbig).mono ?_; rintro e w' ⟨rfl, rfl⟩)
              go_roundw
              case rel => exact ⟨k + 1, p', cap', by omega, by go_num, by rw [HY.out], by rw [HY.out]; exact HO.out, HB.out⟩
              case measure => simp [intOf]; omega
            | true =>
              have HY := Lib.hid (outUp_yes vs s k he)
              have he' : (!(hasB vs ((k : Int) + 1) == (((k : Int) + 1) == s))) = true := he
              clear he
              go_wp2_with (first
                | (go_at_call 35; refine (has_any _ _ _ vs _ _ HR.out hbig).mono ?_; rintro e w' ⟨rfl, rfl⟩)
                | (at_builtin; refine wpList_append_own _ rfl _ _ 25 rfl w.heap.size 3 i0 (.int .i64 0) 1 8 Try.underlying25 hi hz0 hz1 hz2 rfl (by decide) _ _ _ rfl (HW.out.alloc _) ⟨wr.heap.size, 0, none⟩ 1 1 [.int .i64 ((k : Int) + 1)] rfl rfl (one_cell _ _ _) (by intro u hu; simp at hu; subst hu; rfl) (by unfold maxLen; omega) (by omega) (by simp; omega) ?_))
              intro v' w2 hown' hgrow _
              have hb1 : Below w.heap.size w w2 := (HB.out.alloc hsz _).grown hgrow (by simp; omega) (own_block HW.out)
              have hn1 : w2.ownsRow w.heap.size 3 1 v' (outUp vs s (k + 1)).length ((outUp vs s (k + 1)).map (Value.int .i64)) := by
                rw [HY.out, List.length_append, List.map_append]; exact hown'
              obtain ⟨p3, c3, hv, ho1⟩ := OI.of_owns hn1
              have HN := Lib.hid ho1
              have HB2 := Lib.hid hb1
              have HV := Lib.hid hv
              clear hgrow hown' HB HW hn1 ho1 hb1 hv
              go_wp2
              go_roundw
              case rel => exact ⟨k + 1, p3, c3, by omega, by go_num, HV.out, HN.out, HB2.out⟩
              case measure => simp [intOf]; omega
          · obtain rfl : k = 5 := by omega
            clear ho hbel
            by_cases hz : (outUp vs s 5).length = 0
            · have hzt : (((outUp vs s 5).length : Int) == 0) = true := by simp [hz]
              have HZ := Lib.hid hz
              clear hz
              go_wp2
              go_ret2
              refine ⟨⟨none, 0, ?_, ?_⟩, HB.out⟩
              · rw [HL.out, HE.out, HZ.out]; rfl
              · rw [HL.out, HZ.out, List.length_eq_zero_iff.1 HZ.out]; exact World.ownsRow_nil _ _ _ _
            · have hzt : (((outUp vs s 5).length : Int) == 0) = false := by simp; intro e; exact hz (by rw [e]; rfl)
              have HZ := Lib.hid hz
              clear hz
              go_wp2
              go_ret2
              refine ⟨⟨p', cap', ?_, ?_⟩, HB.out⟩
              · rw [HL.out, HE.out, if_neg HZ.out]; rfl
              · rw [HL.out]; exact HO.out

end Go.Proofs.Ytochcilkpjhmiaa
