/- LeasePlays: the walk. -/
import Derived.Test.YtfjfpnlcmjpofaaVB
import Derived.Test.YtfjfpnlcmjpofaaL2
import Derived.Test.YtfjfpnlcmjpofaaU3
import Derived.Deep.CutBlock
import Derived.Deep.RegionHeld3
namespace Go.Proofs.Ytfjfpnlcmjpofaa
open Go.RowKit Go.Maps Go.Sort Go.Shelf
set_option linter.unusedVariables false

theorem modm' (x : Int) (m : Nat) (h1 : 1 ≤ m) (h2 : m ≤ 2000000) : ∃ N : Nat, wrap64 ((IntKind.u64.wrap x).tmod (m : Int)) = (N : Int) ∧ N < m := by
  have h0 := u64_nonneg x
  have e : (IntKind.u64.wrap x).tmod (m : Int) = (IntKind.u64.wrap x) % (m : Int) := Int.tmod_eq_emod_of_nonneg h0
  have a1 := Int.emod_nonneg (IntKind.u64.wrap x) (show (m : Int) ≠ 0 by omega)
  have a2 := Int.emod_lt_of_pos (IntKind.u64.wrap x) (show (0 : Int) < m by omega)
  refine ⟨((IntKind.u64.wrap x) % (m : Int)).toNat, ?_, by omega⟩
  rw [e, IntWalk.wrap64_in _ (by omega)]
  omega
theorem u64_len' {m : Nat} (h : m ≤ 2000000) : IntKind.u64.wrap (m : Int) = (m : Int) := by
  simp only [IntKind.wrap, IntKind.bits, IntKind.signed]
  simp
  omega
set_option maxRecDepth 20000 in
theorem plays_bad (life hold now : Int) (h : newB life hold now = false) (a : Option Addr) (n c : Nat) (w : World) : Calls Try.prog 4 #[.int .i64 life, .int .i64 hold, .int .i64 now, .slice a n c] w fun e w' => e = .returned (.bool true) ∧ Below w.heap.size w w' := by
  have HX := Lib.hid h
  clear h
  go_enter Try.func4, Try.ntmps4
  go_wp2_with fail
  refine (new_bad life hold now HX.out w).mono ?_
  rintro e w1 ⟨rfl, e1⟩
  obtain rfl := e1
  go_wp2_with fail
  refine (dnew_bad life hold now HX.out w).mono ?_
  rintro e w1 ⟨rfl, e1⟩
  obtain rfl := e1
  go_wp2_with fail
  go_loopw [14] (fun i wr => i = .int .i64 0 ∧ Hid (Only None' w wr)) (fun i wr => 0)
  case atStart => exact ⟨rfl, Lib.hid (Only.refl _ _)⟩
  case round =>
    obtain ⟨rfl, HO⟩ := hrel
    by_cases h0 : n = 0
    · subst h0
      go_wp2_with fail
      refine (awake_any _).mono ?_
      rintro e w1 ⟨rfl, o⟩
      have O := Lib.hid o
      clear o
      go_wp2_with fail
      go_ret
      exact ⟨rfl, (HO.out.trans O.out).below (Nat.le_refl _) fun _ e => e.elim⟩
    · have d0 : decide ((0 : Int) < (n : Int)) = true := by rw [decide_eq_true_eq]; omega
      have d1 : (0 : Int) < (n : Int) := by omega
      clear h0
      go_wp2_with fail
      refine (awake_any _).mono ?_
      rintro e w1 ⟨rfl, o⟩
      have O := Lib.hid o
      clear o
      go_wp2_with fail
      go_ret
      exact ⟨rfl, (HO.out.trans O.out).below (Nat.le_refl _) fun _ e => e.elim⟩
set_option maxRecDepth 20000 in
set_option maxHeartbeats 16000000 in
theorem plays_main (lf : Nat) (hold now0 : Int) (hnb : newB (lf : Int) hold now0 = true) (a : Option Addr) (n c : Nat) (ss : List Stp) (w : World) (rd : Steps w a n ss) : Calls Try.prog 4 #[.int .i64 (lf : Int), .int .i64 hold, .int .i64 now0, .slice a n c] w fun e w' => e = .returned (.bool true) ∧ Below w.heap.size w w' := by
  have RD := Lib.hid rd
  have HNB := Lib.hid hnb
  clear rd hnb
  go_enter Try.func4, Try.ntmps4
  go_wp2_with fail
  refine (new_any lf hold now0 HNB.out w).mono ?_
  rintro e w1 ⟨B, M, N, rfl, h1, hB, hM, hN, o1⟩
  have H1 := Lib.hid (And.intro h1 (And.intro hB (And.intro hM (And.intro hN o1))))
  clear h1 hB hM hN o1
  go_wp2_with fail
  refine (dnew_any lf hold now0 HNB.out w1).mono ?_
  rintro e w2 ⟨rfl, d, o2⟩
  have L0 := Lib.hid (LSt.start H1.out.2.2.2.2 H1.out.1 H1.out.2.1 H1.out.2.2.1 H1.out.2.2.2.1 d o2 rfl)
  obtain ⟨X, hX⟩ : ∃ X, X = w1.heap.size := ⟨_, rfl⟩
  rw [← hX] at L0 ⊢
  clear d o2 H1 hX
  go_wp2_with fail
  go_loopw [13, 14] (fun gv i wr => ∃ (j m : Nat) (ga : Option Addr) (gc M N : Nat) (lv sv : Value) (nums : List Int) (c : Tb), j ≤ n ∧ j ≤ 120 ∧ gv = .slice ga m gc ∧ i = .int .i64 (j : Int) ∧ Hid (m = nums.length) ∧ Hid (LSt w wr B M N X lv sv (.slice ga m gc) nums c j)) (fun gv i wr => n - (intOf i).toNat)
  case atStart => exact ⟨0, 0, none, 0, M, N, _, _, [], _, by omega, by omega, rfl, rfl, Lib.hid rfl, L0⟩
  case round =>
    clear L0
    obtain ⟨j, m, ga, gc, M, N, lv, sv, nums, c, hj, hj2, rfl, rfl, HM, HI⟩ := hrel
    rename World => wx
    by_cases hlt : j < n ∧ j < 120
    · have hjs : j < ss.length := by have := RD.out.len; omega
      obtain ⟨bb, off, rfl, hb, hA⟩ := RD.out.at_ j hjs
      obtain ⟨s, hs⟩ : ∃ s, s = ss[j] := ⟨_, rfl⟩
      have HF : Hid s.Fine := Lib.hid (RD.out.fine s (by rw [hs]; exact List.getElem_mem hjs))
      rw [← hs] at hA
      clear hs
      obtain ⟨kd, key, cl, now, nn, raw⟩ := s
      have hA2 := hA.only hb HI.out.only fun e => e
      have k0 := hA2.k0
      have k1 := hA2.k1
      have k2 := hA2.k2
      have k3 := hA2.k3
      have k4 := hA2.k4
      have k5 := hA2.k5
      simp only at k0 k1 k2 k3 k4 k5
      have i0 : (0 : Int) ≤ (j : Int) := by omega
      have i1 : (j : Int) < (n : Int) := by omega
      have i2 : (j : Int) < 120 := by omega
      have d1 : decide ((j : Int) < (n : Int)) = true := by rw [decide_eq_true_eq]; exact i1
      have HJ := Lib.hid hlt
      have HFEW : Hid (m ≤ 120) := Lib.hid (by have := HM.out; have := HI.out.few; omega)
      obtain ⟨T, hT⟩ : ∃ T, T = wx.heap.size := ⟨_, rfl⟩
      obtain ⟨wb, hwb⟩ : ∃ wb, wb = wx.alloc (.cells #[.int .u8 (kd : Int), .string key, .int .i64 cl, .int .i64 now, .int .i64 nn, .bool raw] 32) := ⟨_, rfl⟩
      have HA : Hid (QT w wb B M N X lv sv (.slice ga m gc) nums c j T [.int .u8 (kd : Int), .string key, .int .i64 cl, .int .i64 now, .int .i64 nn, .bool raw]) := Lib.hid (by rw [hwb, hT]; exact HI.out.round [.int .u8 (kd : Int), .string key, .int .i64 cl, .int .i64 now, .int .i64 nn, .bool raw] 32)
      have ewb := hwb.symm
      have eT := hT.symm
      clear hb hA hA2 hjs hlt hj hj2 hwb hT
      have c0 := HA.out.tc.is 0 _ rfl
      go_upto_block 2 with fail
      clear k0 k1 k2 k3 k4 k5 i0 i1 i2 d1 ewb eT c0 HI
      go_cut [13, 16, 17, 18, 19, 20, 21] from 66 to 167 (fun z13 z16 z17 z18 z19 z20 z21 wz => z16 = .bool true ∧ ∃ (m' : Nat) (ga' : Option Addr) (gc' M' N' : Nat) (lv' sv' : Value) (nums' : List Int) (c' : Tb), z13 = .slice ga' m' gc' ∧ Hid (m' = nums'.length) ∧ Hid (QT w wz B M' N' X lv' sv' (.slice ga' m' gc') nums' c' (j + 1) T [.int .u8 (kd : Int), .string key, .int .i64 cl, .int .i64 now, .int .i64 nn, .bool raw]))
      case first =>
        have c0 := HA.out.tc.is 0 _ rfl
        have c1 := HA.out.tc.is 1 _ rfl
        have c2 := HA.out.tc.is 2 _ rfl
        have c3 := HA.out.tc.is 3 _ rfl
        have c4 := HA.out.tc.is 4 _ rfl
        have c5 := HA.out.tc.is 5 _ rfl
        by_cases hk0 : kd = 0
        · as_aux_lemma =>
          have z0 : ((kd : Int) == 0) = true := by simp; omega
          have z0' : (kd == 0) = true := by simpa using hk0
          clear hk0 c4 c5
          by_cases hcode : c.giveCode key.data.toList now = 0
          · obtain ⟨Nn, hNn⟩ : ∃ Nn : Nat, Nn = c.top + 1 := ⟨_, rfl⟩
            have HG : Hid (Calls Try.prog 10 #[.pointer (some ⟨B, 0, none⟩), .string key, .int .i64 cl, .int .i64 now] wb fun e w' => e = .returned (.tuple #[.int .i64 (Nn : Int), .int .i64 0]) ∧ QM w wb w' B M N X lv sv (.slice ga m gc) nums c j T [.int .u8 (kd : Int), .string key, .int .i64 cl, .int .i64 now, .int .i64 nn, .bool raw] (c.gave key cl now)) := Lib.hid (by rw [hNn]; exact HA.out.giveC key cl now HF.out.pl hcode)
            have HG2 : Hid (∀ w5, QM w wb w5 B M N X lv sv (.slice ga m gc) nums c j T [.int .u8 (kd : Int), .string key, .int .i64 cl, .int .i64 now, .int .i64 nn, .bool raw] (c.gave key cl now) → Calls Try.prog 12 #[.pointer (some ⟨X, 0, none⟩), .string key, .int .i64 cl, .int .i64 now] w5 fun e w' => e = .returned (.tuple #[.int .i64 (Nn : Int), .int .i64 0]) ∧ ∃ lv', QT w w' B M N X lv' sv (.slice ga m gc) nums (c.gave key cl now) (j + 1) T [.int .u8 (kd : Int), .string key, .int .i64 cl, .int .i64 now, .int .i64 nn, .bool raw]) := Lib.hid (fun w5 h => by rw [hNn]; exact h.giveD HF.out.pl hcode)
            have HFW : Hid (nums.length ≤ j) := Lib.hid HA.out.st.few
            clear hcode hNn
            go_wp2_with fail
            refine HG.out.mono ?_
            rintro e w5 ⟨rfl, h5⟩
            have H5 := Lib.hid h5
            have y1 := h5.tc.is 1 _ rfl
            have y2 := h5.tc.is 2 _ rfl
            have y3 := h5.tc.is 3 _ rfl
            clear h5 HG HA c0 c1 c2 c3
            go_wp2_with fail
            refine (HG2.out w5 H5.out).mono ?_
            rintro e w6 ⟨rfl, lv6, h6⟩
            have H6 := Lib.hid h6
            clear h6 H5 HG2 y1 y2 y3
            have HGV := Lib.hid H6.out.st.g_
            rw [← HM.out] at HGV
            go_wp2_with (first | (at_builtin; refine wpList_append_any rfl _ _ 25 rfl 3 Try.t3 (.int .i64 0) 1 8 Try.underlying25 info3 t3_zero t3_size t3_bytes rfl (by decide) (.slice ga m gc) m (nums.map (Value.int .i64)) rfl (HGV.out.alloc _) (.slice (some ⟨w6.heap.size, 0, none⟩) 1 1) 1 [.int .i64 (Nn : Int)] rfl (rd_one' w6 _ 3) (one_int _) (by have h1 := HFEW.out; unfold maxLen; omega) (by have h1 := HFEW.out; omega) ?_; intro v2 w7 hv2 hg2 hf2; obtain ⟨oa, oc, rfl, _, _⟩ := hv2.shape; have HY := Lib.hid (And.intro hv2 (And.intro hg2 hf2)); clear hv2 hg2 hf2))
            go_meet
            refine ⟨rfl, m + 1, oa, oc, M, N, lv6, sv, nums ++ [(Nn : Int)], c.gave key cl now, rfl, Lib.hid (by rw [List.length_append, ← HM.out]; rfl), Lib.hid ?_⟩
            exact H6.out.push HFW.out (by rw [← HM.out]; exact HY.out.1) HY.out.2.1 HY.out.2.2
          · obtain ⟨code, hc⟩ : ∃ code, code = c.giveCode key.data.toList now := ⟨_, rfl⟩
            have HC0 := Lib.hid (And.intro hc (by rw [hc]; exact hcode : code ≠ 0))
            have b0 : (code == 0) = false := by simpa using HC0.out.2
            clear hcode hc
            go_wp2_with fail
            refine (HA.out.giveCno key cl now HF.out.pl.1 HC0.out.1.symm HC0.out.2).mono ?_
            rintro e w5 ⟨rfl, h5⟩
            have HQ := Lib.hid h5
            have y1 := h5.tc.is 1 _ rfl
            have y2 := h5.tc.is 2 _ rfl
            have y3 := h5.tc.is 3 _ rfl
            clear h5 c0 c1 c2 c3
            go_wp2_with fail
            refine (HQ.out.giveDno key cl now HC0.out.1.symm HC0.out.2).mono ?_
            rintro e w6 ⟨rfl, h6⟩
            have H6 := Lib.hid h6
            clear h6 y1 y2 y3
            go_wp2_with fail
            go_meet
            exact ⟨rfl, m, ga, gc, M, N, lv, sv, nums, c, rfl, HM, Lib.hid (H6.out.later (Nat.le_succ j))⟩
        have z0 : ((kd : Int) == 0) = false := by simp; omega
        have z0' : (kd == 0) = false := by simpa using hk0
        by_cases hk1 : kd = 1
        · as_aux_lemma =>
          have z0 : ((kd : Int) == 0) = false := by simp; omega
          have z1 : ((kd : Int) == 1) = true := by simp; omega
          have z1' : (kd == 1) = true := by simpa using hk1
          clear hk0 hk1 z0' c1 c3
          cases raw with
          | true =>
            go_wp2_with fail
            go_region_held3 (fun w' => w'.cell? ⟨T, 2, none⟩ = some (.int .i64 cl))
              (first | exact (HA.out).tc.is 2 _ rfl | exact ((HA.out.drewN _)).tc.is 2 _ rfl | exact (HA.out.drew).tc.is 2 _ rfl | exact (HMM.out).tc.is 2 _ rfl | exact ((HMM.out.drewN _)).tc.is 2 _ rfl | exact (HMM.out.drew).tc.is 2 _ rfl | exact (HW.out).tc.is 2 _ rfl | exact ((HW.out.drewN _)).tc.is 2 _ rfl | exact (HW.out.drew).tc.is 2 _ rfl)
              (first | (go_at_call 13; (first | with_reducible refine (QT.backC HA.out cl nn).mono ?_ | with_reducible refine (QT.backC (HA.out.drewN _) cl nn).mono ?_ | with_reducible refine (QT.backC HA.out.drew cl nn).mono ?_); rintro e w5 ⟨rfl, h5⟩; have HMM := Lib.hid h5; clear h5) | (go_at_call 14; (first | with_reducible refine (QM.backD HMM.out).mono ?_ | with_reducible refine (QM.backD (HMM.out.drewN _)).mono ?_ | with_reducible refine (QM.backD HMM.out.drew).mono ?_); rintro e w6 ⟨rfl, lv6, h6⟩; have HW := Lib.hid h6; clear h6))
            all_goals (
              go_wp2_with fail
              go_meet
              exact ⟨rfl, m, ga, gc, M, N, lv6, sv, nums, c.back cl nn, rfl, HM, Lib.hid (HW.out)⟩)
          | false =>
            by_cases hm0 : m = 0
            · have d0 : decide ((0 : Int) < (m : Int)) = false := by rw [decide_eq_false_iff_not]; omega
              have d0' : ¬ (0 : Int) < (m : Int) := by omega
              clear hm0
              go_wp2_with fail
              go_region_held3 (fun w' => w'.cell? ⟨T, 2, none⟩ = some (.int .i64 cl))
                (first | exact (HA.out).tc.is 2 _ rfl | exact ((HA.out.drewN _)).tc.is 2 _ rfl | exact (HA.out.drew).tc.is 2 _ rfl | exact (HMM.out).tc.is 2 _ rfl | exact ((HMM.out.drewN _)).tc.is 2 _ rfl | exact (HMM.out.drew).tc.is 2 _ rfl | exact (HW.out).tc.is 2 _ rfl | exact ((HW.out.drewN _)).tc.is 2 _ rfl | exact (HW.out.drew).tc.is 2 _ rfl)
                (first | (go_at_call 13; (first | with_reducible refine (QT.backC HA.out cl nn).mono ?_ | with_reducible refine (QT.backC (HA.out.drewN _) cl nn).mono ?_ | with_reducible refine (QT.backC HA.out.drew cl nn).mono ?_); rintro e w5 ⟨rfl, h5⟩; have HMM := Lib.hid h5; clear h5) | (go_at_call 14; (first | with_reducible refine (QM.backD HMM.out).mono ?_ | with_reducible refine (QM.backD (HMM.out.drewN _)).mono ?_ | with_reducible refine (QM.backD HMM.out.drew).mono ?_); rintro e w6 ⟨rfl, lv6, h6⟩; have HW := Lib.hid h6; clear h6))
              all_goals (
                go_wp2_with fail
                go_meet
                exact ⟨rfl, m, ga, gc, M, N, lv6, sv, nums, c.back cl nn, rfl, HM, Lib.hid (HW.out)⟩)
            · have d0 : decide ((0 : Int) < (m : Int)) = true := by rw [decide_eq_true_eq]; omega
              have d0' : (0 : Int) < (m : Int) := by omega
              have d0n : ((m : Int) == 0) = false := by simp; omega
              obtain ⟨kx, hkx, hkm⟩ := modm' nn m (by omega) (by have := HFEW.out; omega)
              have hu := u64_len' (m := m) (by have := HFEW.out; omega)
              have hn1 := HA.out.st.g_
              rw [← HM.out] at hn1
              obtain ⟨xa, xo, rfl, hxa, hcell, _⟩ := hn1.form' (by omega)
              have hkl : kx < nums.length := by have := HM.out; omega
              obtain ⟨nx, hnx⟩ : ∃ nx, nx = nums[kx] := ⟨_, rfl⟩
              have p0 : wb.cell? ⟨xa, xo + kx, none⟩ = some (.int .i64 nx) := by
                have := hcell kx (.int .i64 nx) (by rw [List.getElem?_map, List.getElem?_eq_getElem hkl, ← hnx]; rfl)
                exact this
              have i2 : (0 : Int) ≤ (kx : Int) := by omega
              have i3 : (kx : Int) < (m : Int) := by omega
              clear hnx hkl hcell hxa hn1 hkm hm0
              go_wp2_with fail
              go_region_held3 (fun w' => w'.cell? ⟨T, 2, none⟩ = some (.int .i64 cl))
                (first | exact (HA.out).tc.is 2 _ rfl | exact ((HA.out.drewN _)).tc.is 2 _ rfl | exact (HA.out.drew).tc.is 2 _ rfl | exact (HMM.out).tc.is 2 _ rfl | exact ((HMM.out.drewN _)).tc.is 2 _ rfl | exact (HMM.out.drew).tc.is 2 _ rfl | exact (HW.out).tc.is 2 _ rfl | exact ((HW.out.drewN _)).tc.is 2 _ rfl | exact (HW.out.drew).tc.is 2 _ rfl)
                (first | (go_at_call 13; (first | with_reducible refine (QT.backC HA.out cl nx).mono ?_ | with_reducible refine (QT.backC (HA.out.drewN _) cl nx).mono ?_ | with_reducible refine (QT.backC HA.out.drew cl nx).mono ?_); rintro e w5 ⟨rfl, h5⟩; have HMM := Lib.hid h5; clear h5) | (go_at_call 14; (first | with_reducible refine (QM.backD HMM.out).mono ?_ | with_reducible refine (QM.backD (HMM.out.drewN _)).mono ?_ | with_reducible refine (QM.backD HMM.out.drew).mono ?_); rintro e w6 ⟨rfl, lv6, h6⟩; have HW := Lib.hid h6; clear h6))
              all_goals (
                go_wp2_with fail
                go_meet
                exact ⟨rfl, m, _, gc, M, N, lv6, sv, nums, c.back cl nx, rfl, HM, Lib.hid (HW.out)⟩)
        have z1 : ((kd : Int) == 1) = false := by simp; omega
        have z1' : (kd == 1) = false := by simpa using hk1
        by_cases hk2 : kd = 2
        · as_aux_lemma =>
          have z2 : ((kd : Int) == 2) = true := by simp; omega
          have z2' : (kd == 2) = true := by simpa using hk2
          clear hk0 hk1 hk2 c2 c3 c4 c5
          have HJ6 : Hid (j ≤ 1000000) := Lib.hid (by have := HJ.out; omega)
          go_wp2_with fail
          refine (QT.shutC HA.out key HF.out.pl.1 HJ6.out).mono ?_
          rintro e w5 ⟨rfl, h5⟩
          have H5 := Lib.hid h5
          have y1 := h5.tc.is 1 _ rfl
          clear h5 c0 c1
          go_wp2_with fail
          refine (QM.shutD H5.out HJ6.out).mono ?_
          rintro e w6 ⟨rfl, sv6, h6⟩
          have H6 := Lib.hid h6
          clear h6 y1 H5 HA
          go_wp2_with fail
          go_meet
          exact ⟨rfl, m, ga, gc, M, N, lv, sv6, nums, c.shutted key.data.toList, rfl, HM, Lib.hid (H6.out)⟩
        have z2 : ((kd : Int) == 2) = false := by simp; omega
        have z2' : (kd == 2) = false := by simpa using hk2
        by_cases hk3 : kd = 3
        · as_aux_lemma =>
          have z3 : ((kd : Int) == 3) = true := by simp; omega
          have z3' : (kd == 3) = true := by simpa using hk3
          clear hk0 hk1 hk2 hk3 c2 c3 c4 c5
          have HJ6 : Hid (j ≤ 1000000) := Lib.hid (by have := HJ.out; omega)
          go_wp2_with fail
          refine (QT.unshutC HA.out key HF.out.pl.1).mono ?_
          rintro e w5 ⟨rfl, h5⟩
          have H5 := Lib.hid h5
          have y1 := h5.tc.is 1 _ rfl
          clear h5 c0 c1
          go_wp2_with fail
          refine (QM.unshutD H5.out HJ6.out).mono ?_
          rintro e w6 ⟨rfl, sv6, h6⟩
          have H6 := Lib.hid h6
          clear h6 y1 H5 HA
          go_wp2_with fail
          go_meet
          exact ⟨rfl, m, ga, gc, M, N, lv, sv6, nums, c.unshut key.data.toList, rfl, HM, Lib.hid (H6.out)⟩
        have z3 : ((kd : Int) == 3) = false := by simp; omega
        have z3' : (kd == 3) = false := by simpa using hk3
        by_cases hk4 : kd = 4
        · as_aux_lemma =>
          have z4 : ((kd : Int) == 4) = true := by simp; omega
          have z4' : (kd == 4) = true := by simpa using hk4
          clear hk0 hk1 hk2 hk3 hk4 c1 c2 c3 c4 c5
          go_wp2_with fail
          refine (QT.clearC HA.out).mono ?_
          rintro e w5 ⟨rfl, M', N', h5, hM, hN, o5⟩
          obtain ⟨t1, d1, q1⟩ := HA.out.cleared h5 hM hN o5
          have HQ := Lib.hid q1
          have x4 := d1.is 4 _ rfl
          have x5 := d1.is 5 _ rfl
          have f4 := d1.thaw 4
          have f5 := d1.thaw 5
          clear h5 hM hN o5 t1 d1 q1 HA c0
          go_wp2_with fail
          go_meet
          exact ⟨rfl, m, ga, gc, M', N', _, _, nums, c.cleared, rfl, HM, Lib.hid (HQ.out)⟩
        have z4 : ((kd : Int) == 4) = false := by simp; omega
        have z4' : (kd == 4) = false := by simpa using hk4
        clear hk0 hk1 hk2 hk3 hk4 c1 c2 c3 c4 c5
        go_wp2_with fail
        go_meet
        exact ⟨rfl, m, ga, gc, M, N, lv, sv, nums, c, rfl, HM, Lib.hid (HA.out.later (Nat.le_succ j))⟩
      case rest =>
        obtain ⟨rfl, m', ga', gc', M', N', lv', sv', nums', c', rfl, HM', HP⟩ := hcut
        clear HA HM HFEW HF
        have HL1 : Hid ((c'.ls.filter (live now)).length ≤ c'.ls.length) := Lib.hid (List.length_filter_le _ _)
        have HL0 : Hid ((c'.ls.filter (live 0)).length ≤ c'.ls.length) := Lib.hid (List.length_filter_le _ _)
        have HLK : Hid (((c'.ls.filter (live now)).filter (ofKey key)).length ≤ c'.ls.length) := Lib.hid (Nat.le_trans (List.length_filter_le _ _) HL1.out)
        obtain ⟨eb, heb⟩ : ∃ eb, eb = decide (now < c'.start + c'.hold) := ⟨_, rfl⟩
        have HEB := Lib.hid heb
        clear heb
        have HEC : Hid (∀ wr, QT w wr B M' N' X lv' sv' (.slice ga' m' gc') nums' c' (j + 1) T [.int .u8 (kd : Int), .string key, .int .i64 cl, .int .i64 now, .int .i64 nn, .bool raw] → Calls Try.prog 19 #[.pointer (some ⟨B, 0, none⟩), .int .i64 now] wr fun e w' => e = .returned (.bool eb) ∧ QT w w' B M' N' X lv' sv' (.slice ga' m' gc') nums' c' (j + 1) T [.int .u8 (kd : Int), .string key, .int .i64 cl, .int .i64 now, .int .i64 nn, .bool raw]) := Lib.hid (fun wr h => by rw [HEB.out]; exact h.earlyC now)
        have HED : Hid (∀ wr, QT w wr B M' N' X lv' sv' (.slice ga' m' gc') nums' c' (j + 1) T [.int .u8 (kd : Int), .string key, .int .i64 cl, .int .i64 now, .int .i64 nn, .bool raw] → Calls Try.prog 20 #[.pointer (some ⟨X, 0, none⟩), .int .i64 now] wr fun e w' => e = .returned (.bool eb) ∧ QT w w' B M' N' X lv' sv' (.slice ga' m' gc') nums' c' (j + 1) T [.int .u8 (kd : Int), .string key, .int .i64 cl, .int .i64 now, .int .i64 nn, .bool raw]) := Lib.hid (fun wr h => by rw [HEB.out]; exact h.earlyD now)
        have hbb : (eb != eb) = false := by simp
        have hbb' : (eb == eb) = true := by simp
        go_wp2_with fail
        go_region_held3 (fun w' => w'.cell? ⟨T, 1, none⟩ = some (.string key) ∧ w'.cell? ⟨T, 3, none⟩ = some (.int .i64 now))
          (first | exact ⟨(HP.out).tc.is 1 _ rfl, (HP.out).tc.is 3 _ rfl⟩ | exact ⟨((HP.out.drewN _)).tc.is 1 _ rfl, ((HP.out.drewN _)).tc.is 3 _ rfl⟩ | exact ⟨(HP.out.drew).tc.is 1 _ rfl, (HP.out.drew).tc.is 3 _ rfl⟩ | exact ⟨(HV.out.t).tc.is 1 _ rfl, (HV.out.t).tc.is 3 _ rfl⟩ | exact ⟨((HV.out.drewN _).t).tc.is 1 _ rfl, ((HV.out.drewN _).t).tc.is 3 _ rfl⟩ | exact ⟨(HV.out.drew.t).tc.is 1 _ rfl, (HV.out.drew.t).tc.is 3 _ rfl⟩ | exact ⟨(HU.out.v_.t).tc.is 1 _ rfl, (HU.out.v_.t).tc.is 3 _ rfl⟩ | exact ⟨((HU.out.drewN _).v_.t).tc.is 1 _ rfl, ((HU.out.drewN _).v_.t).tc.is 3 _ rfl⟩ | exact ⟨(HU.out.drew.v_.t).tc.is 1 _ rfl, (HU.out.drew.v_.t).tc.is 3 _ rfl⟩)
          (first | (go_at_call 19; (first | with_reducible refine (HEC.out _ HP.out).mono ?_ | with_reducible refine (HEC.out _ (HP.out.drewN _)).mono ?_ | with_reducible refine (HEC.out _ HP.out.drew).mono ?_); rintro e wq ⟨rfl, hq⟩; have HP := Lib.hid hq; clear hq) | (go_at_call 20; (first | with_reducible refine (HED.out _ HP.out).mono ?_ | with_reducible refine (HED.out _ (HP.out.drewN _)).mono ?_ | with_reducible refine (HED.out _ HP.out.drew).mono ?_); rintro e wq ⟨rfl, hq⟩; have HP := Lib.hid hq; clear hq) | (go_at_call 22; (first | with_reducible refine (QT.outC HP.out key now).mono ?_ | with_reducible refine (QT.outC (HP.out.drewN _) key now).mono ?_ | with_reducible refine (QT.outC HP.out.drew key now).mono ?_); rintro e wq ⟨v, rfl, l, hq⟩; have HV := Lib.hid hq; clear hq) | (go_at_call 23; (first | with_reducible refine (QV.outD HV.out).mono ?_ | with_reducible refine (QV.outD (HV.out.drewN _)).mono ?_ | with_reducible refine (QV.outD HV.out.drew).mono ?_); rintro e wq ⟨u, rfl, hq⟩; have HU := Lib.hid hq; clear hq) | (go_at_call 24; (first | with_reducible refine (QT.allC HP.out _).mono ?_ | with_reducible refine (QT.allC (HP.out.drewN _) _).mono ?_ | with_reducible refine (QT.allC HP.out.drew _).mono ?_); rintro e wq ⟨v, rfl, l, hq⟩; have HV := Lib.hid hq; clear hq) | (go_at_call 25; (first | with_reducible refine (QV.allD HV.out).mono ?_ | with_reducible refine (QV.allD (HV.out.drewN _)).mono ?_ | with_reducible refine (QV.allD HV.out.drew).mono ?_); rintro e wq ⟨u, rfl, hq⟩; have HU := Lib.hid hq; clear hq) | (go_at_call 21; (first | with_reducible refine (QU.twice HU.out HLK.out).mono ?_ | with_reducible refine (QU.twice (HU.out.drewN _) HLK.out).mono ?_ | with_reducible refine (QU.twice HU.out.drew HLK.out).mono ?_); rintro e wq ⟨rfl, hq⟩; have HP := Lib.hid hq; clear hq) | (go_at_call 21; (first | with_reducible refine (QU.twice HU.out HL1.out).mono ?_ | with_reducible refine (QU.twice (HU.out.drewN _) HL1.out).mono ?_ | with_reducible refine (QU.twice HU.out.drew HL1.out).mono ?_); rintro e wq ⟨rfl, hq⟩; have HP := Lib.hid hq; clear hq) | (go_at_call 26; (first | with_reducible refine (QU.same HU.out HL1.out).mono ?_ | with_reducible refine (QU.same (HU.out.drewN _) HL1.out).mono ?_ | with_reducible refine (QU.same HU.out.drew HL1.out).mono ?_); rintro e wq ⟨rfl, hq⟩; have HP := Lib.hid hq; clear hq) | (go_at_call 26; (first | with_reducible refine (QU.same HU.out HL0.out).mono ?_ | with_reducible refine (QU.same (HU.out.drewN _) HL0.out).mono ?_ | with_reducible refine (QU.same HU.out.drew HL0.out).mono ?_); rintro e wq ⟨rfl, hq⟩; have HP := Lib.hid hq; clear hq))
        all_goals (
          go_wp2_with fail
          go_roundw)
        case rel => exact ⟨j + 1, m', ga', gc', M', N', _, _, nums', c', by have := HJ.out; omega, by have := HJ.out; omega, rfl, next_int (by have := HJ.out; omega), HM', Lib.hid HP.out.st⟩
        case measure =>
          rw [next_int (by have := HJ.out; omega)]
          show n - ((j + 1 : Nat) : Int).toNat < n - (j : Int).toNat
          have := HJ.out
          omega
    · have HE : Hid (n ≤ j ∨ 120 ≤ j) := Lib.hid (by omega)
      by_cases hn : j < n
      · have i0 : (0 : Int) ≤ (j : Int) := by omega
        have i1 : (j : Int) < (n : Int) := by omega
        have d1 : decide ((j : Int) < (n : Int)) = true := by rw [decide_eq_true_eq]; exact i1
        have d2 : decide ((j : Int) < 120) = false := by rw [decide_eq_false_iff_not]; omega
        have d3 : decide (j < 120) = false := by rw [decide_eq_false_iff_not]; omega
        clear hn hlt
        go_wp2_with fail
        refine (awake_any _).mono ?_
        rintro e w1 ⟨rfl, o⟩
        have O := Lib.hid o
        clear o
        go_wp2_with fail
        go_ret
        exact ⟨rfl, (HI.out.only.trans O.out).below (Nat.le_refl _) fun _ e => e.elim⟩
      · have i0 : (0 : Int) ≤ (j : Int) := by omega
        have i1 : ¬ (j : Int) < (n : Int) := by omega
        have d1 : decide ((j : Int) < (n : Int)) = false := by rw [decide_eq_false_iff_not]; exact i1
        have d3 : decide (j < n) = false := by rw [decide_eq_false_iff_not]; exact hn
        clear hlt
        go_wp2_with fail
        refine (awake_any _).mono ?_
        rintro e w1 ⟨rfl, o⟩
        have O := Lib.hid o
        clear o
        go_wp2_with fail
        go_ret
        exact ⟨rfl, (HI.out.only.trans O.out).below (Nat.le_refl _) fun _ e => e.elim⟩
theorem plays_walk (x y z : Int) (a : Option Addr) (n c : Nat) (ss : List Stp) (w : World) (rd : Steps w a n ss) : Calls Try.prog 4 #[.int .i64 x, .int .i64 y, .int .i64 z, .slice a n c] w fun e w' => e = .returned (.bool true) ∧ Below w.heap.size w w' := by
  by_cases h : newB x y z = true
  · have hx : 1 ≤ x := by
      unfold newB at h
      simp only [Bool.and_eq_true, decide_eq_true_eq] at h
      omega
    obtain ⟨lf, rfl⟩ : ∃ lf : Nat, x = (lf : Int) := ⟨x.toNat, by omega⟩
    exact plays_main lf y z h a n c ss w rd
  · exact plays_bad x y z (by simpa using h) a n c w
end Go.Proofs.Ytfjfpnlcmjpofaa
