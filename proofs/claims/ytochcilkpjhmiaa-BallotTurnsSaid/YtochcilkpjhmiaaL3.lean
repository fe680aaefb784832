/- The walk of butterylaw15.BallotTurns. -/
import Derived.Test.YtochcilkpjhmiaaL0
namespace Go.Proofs.Ytochcilkpjhmiaa
open Go.RowKit

theorem oi_set {B : Nat} {w : World} {g n cap : Nat} {zs : List Int} (h : OI B w (some ⟨g, 0, none⟩) n cap zs) (i : Nat) (v : Int) :
    OI B (w.setCell ⟨g, i, none⟩ (.int .i64 v)) (some ⟨g, 0, none⟩) n cap (zs.set i v) := by
  have hl := h.len
  obtain ⟨g', e, h1, h2, h3, h4, _⟩ := h.some
  injection e with e1
  subst e1
  rcases h.2 with ⟨e, _⟩ | ⟨g', cap', cur, e, hgB, hblk, _, _, hcs1, _⟩
  · cases e
  injection e with e1 _ e3
  injection e1 with e1
  injection e1 with e1
  subst e1; subst e3
  obtain ⟨cur2, hb2, hs2⟩ := shape_setCells g 3 (0, 0) [Value.int .i64 v] i w cur hblk
  refine owns_of_cells (w := w.setCell ⟨g, i, none⟩ (.int .i64 v)) hb2 (by omega) h3 h4 h1 (by simpa using hl) (fun j u hj => ?_)
  have hjl : j < zs.length := by have := (List.getElem?_eq_some_iff.1 hj).1; simpa using this
  have hcell := oi_cellAt h j (by omega)
  rw [List.getElem?_map, List.getElem?_eq_getElem (by simpa using hjl), List.getElem_set] at hj
  by_cases hij : i = j
  · subst hij
    rw [World.cell?_setCell_same _ _ _ hcell, ← hj]; simp
  · rw [World.cell?_setCell_other _ _ _ _ (by intro e; injection e with _ e; exact hij e), hcell, ← hj, nth_get zs j hjl]; simp [hij]

theorem oi_free {B : Nat} {w : World} {g n cap : Nat} {zs : List Int} (h : OI B w (some ⟨g, 0, none⟩) n cap zs) (i : Nat) : w.frozen? ⟨g, i, none⟩ = false := by
  rcases h.2 with ⟨e, _⟩ | ⟨g', cap', cur, e, hgB, hblk, _⟩
  · cases e
  injection e with e1 _ e3
  injection e1 with e1
  injection e1 with e1
  subst e1
  simp [World.frozen?, hblk]

set_option maxHeartbeats 1000000 in
theorem turns_walk (p p' : Option Addr) (n n' cap cap' : Nat) (a b : List Int) (s : Int) (w : World) (h : RI w p n cap a) (h' : RI w p' n' cap' b) (hcap : p = none → cap = 0) :
    Calls Try.prog 4 #[.slice p n cap, .slice p' n' cap', .int .i64 s] w fun e w' => e = .returned (.bool true) ∧ Below w.heap.size w w' := by
  have H := Lib.hid h
  have H' := Lib.hid h'
  have HC := Lib.hid hcap
  clear h h' hcap
  by_cases hb : (n ≤ 200 ∧ n' ≤ 200)
  · have H1 := Lib.hid (longB_no n n' hb.1 hb.2)
    obtain ⟨hb0, hb1⟩ := hb
    have hb0' : n * 8 ≤ 140737488355328 := by omega
    have hb0'' : (n + 1) * 8 ≤ 140737488355328 := by omega
    have hb1' : n' * 8 ≤ 140737488355328 := by omega
    have hq1 := Lib.hid (eqB_self a)
    have hq2 := Lib.hid (eqB_self (turnL a s))
    have htl : (turnL a s).length * 8 ≤ 140737488355328 := by
      have : (turnL a s).length ≤ 5 := by unfold turnL; split; exact outUp_len a s 5; simp
      omega
    go_enter Try.func4, Try.ntmps4
    go_wp2_with (first
      | (go_at_call 15; (with_reducible refine (long_any _ _ n n' _ _ _).mono ?_); rintro e w' ⟨rfl, rfl⟩; rw [H1.out])
      | (at_builtin; refine wpList_append_fresh (W := w) rfl (.tmp 17) (.tmp 18) rfl rfl p n cap a rfl H.out HC.out hb0' ?_; intro pa ca wa hoa hba))
    have HA := Lib.hid hoa
    have HBA := Lib.hid hba
    have hsa := hba.size
    clear hoa hba
    go_loopw [8] (fun i wr => ∃ k : Nat, k ≤ 2 ∧ i = .int .i64 k ∧ Below wa.heap.size wa wr) (fun i _ => 2 - (intOf i).toNat)
    case atStart => exact ⟨0, by omega, rfl, Below.refl _ _⟩
    case round =>
      obtain ⟨k, hk, rfl, hbr⟩ := hrel
      have HBR := Lib.hid hbr
      have hsr := hbr.size
      have HW := Lib.hid (HBA.out.trans (hbr.mono hsa))
      have RA := Lib.hid ((HA.out.below hbr).ri)
      have RV := Lib.hid (H.out.below HW.out)
      have RW := Lib.hid (H'.out.below HW.out)
      clear hbr
      by_cases hlt : k < 2
      · go_wp2_with fail
        refine (turn_any _ _ _ a s _ RA.out hb0'').mono ?_
        rintro e w1 ⟨⟨px, cx, rfl, hox⟩, hb1⟩
        have HB1 := Lib.hid hb1
        have HOX := Lib.hid hox
        clear hb1 hox
        go_wp2_with fail
        refine (refTurn_any _ _ _ a s _ (RV.out.below HB1.out) hb0').mono ?_
        rintro e w2 ⟨⟨py, cy, rfl, hoy⟩, hb2⟩
        have HX2 := Lib.hid ((HOX.out.below hb2).ri)
        have HY2 := Lib.hid hoy.ri
        have h12 := HB1.out.trans (hb2.mono HB1.out.size)
        have RA2 := Lib.hid (RA.out.below h12)
        have RV2 := Lib.hid (RV.out.below h12)
        have hcur : Below w2.heap.size w2 w2 := Below.refl _ _
        have HB2 := Lib.hid hb2
        clear hoy hb2 h12
        go_wp2_with (first
          | (go_at_call 18; (with_reducible refine (bstep hcur (Nat.le_refl _) (bdraw (ints_any px py _ _ _ _ (turnL a s) (turnL a s) _ (HX2.out.below hcur) (HY2.out.below hcur) htl htl))).mono ?_); rintro e w3 ⟨rfl, h3⟩; rw [hq2.out])
          | (go_at_call 18; (with_reducible refine (bstep h3 (Nat.le_refl _) (bdraw (ints_any pa p _ _ _ _ a a _ (RA2.out.below h3) (RV2.out.below h3) hb0' hb0'))).mono ?_); rintro e w4 ⟨rfl, h4⟩; rw [hq1.out]))
        have h14 : Below w1.heap.size w1 w4 := HB2.out.trans (h4.mono HB2.out.size)
        have h04 : Below wr.heap.size wr w4 := HB1.out.trans (h14.mono HB1.out.size)
        have HOX4 := Lib.hid (HOX.out.below h14)
        have H04 := Lib.hid h04
        clear h14 h04 hcur h3 h4
        obtain ⟨wo, rfl⟩ : ∃ wo : World, wo = wr := ⟨_, rfl⟩
        rcases oi_shape HOX4.out with rfl | ⟨g, rfl⟩
        all_goals
          go_loopw [13] (fun i wv => ∃ (j : Nat) (zs : List Int), j ≤ (turnL a s).length ∧ i = .int .i64 j ∧ OI wo.heap.size wv _ (turnL a s).length cx zs ∧ Below wo.heap.size wo wv) (fun i _ => (turnL a s).length - (intOf i).toNat)
          case atStart => exact ⟨0, turnL a s, by omega, rfl, HOX4.out, H04.out⟩
          case round =>
            obtain ⟨j, zs, hj, rfl, hoz, hbz⟩ := hrel
            have HOZ := Lib.hid hoz
            have HBZ := Lib.hid hbz
            by_cases hlt2 : j < (turnL a s).length
            · obtain ⟨gg, ee, hcell⟩ := oi_at hoz j hlt2
              cases ee
              all_goals
                have hfree := oi_free hoz j
                have hgB : wo.heap.size ≤ g := by obtain ⟨g', e, h1, _⟩ := hoz.some; injection e with e; omega
                clear hoz hbz
                go_wp2
                go_roundw
                case rel => exact ⟨j + 1, zs.set j (-7), by omega, by go_num, oi_set HOZ.out j (-7), HBZ.out.setCell (p := ⟨g, j, none⟩) hgB _⟩
                case measure => simp [intOf]; omega
            · clear hoz hbz
              go_wp2
              go_roundw
              case rel => exact ⟨k + 1, by omega, by go_num, HBR.out.trans (HBZ.out.mono hsr)⟩
              case measure => simp [intOf]; omega
      · have hcur : Below wr.heap.size wr wr := Below.refl _ _
        go_wp2_with (first
          | (go_at_call 19; (refine (bstep hcur (Nat.le_refl _) (near_any _ _ _ _ _ _ a b _ (RA.out.below hcur) (RW.out.below hcur) hb0' hb1')).mono ?_); rintro e w3 ⟨rfl, h3⟩)
          | (go_at_call 20; (refine (bstep h3 (Nat.le_refl _) (refNear_any _ _ _ _ _ _ a b _ (RV.out.below h3) (RW.out.below h3) hb0' hb1')).mono ?_); rintro e w4 ⟨rfl, h4⟩)
          | (go_at_call 18; (refine (bstep h4 (Nat.le_refl _) (bdraw (ints_any _ _ _ _ _ _ a a _ (RA.out.below h4) (RV.out.below h4) hb0' hb0'))).mono ?_); rintro e w5 ⟨rfl, h5⟩; rw [hq1.out]))
        go_ret
        exact ⟨rfl, HW.out.trans (h5.mono HW.out.size)⟩
  · have H1 := Lib.hid (longB_yes n n' hb)
    clear hb
    go_enter Try.func4, Try.ntmps4
    go_wp2_with (go_at_call 15; (with_reducible refine (long_any _ _ n n' _ _ _).mono ?_); rintro e w' ⟨rfl, rfl⟩; rw [H1.out])
    go_ret
    exact ⟨rfl, Below.refl _ _⟩

end Go.Proofs.Ytochcilkpjhmiaa
