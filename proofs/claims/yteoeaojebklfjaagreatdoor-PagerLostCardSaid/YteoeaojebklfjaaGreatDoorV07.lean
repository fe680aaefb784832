/- H4 in one text. -/
import Derived.Test.YteoeaojebklfjaaGreatDoorV06
namespace Go.Proofs.YteoeaojebklfjaaGreatDoor
open Go.RowKit Go.Maps
set_option linter.unusedVariables false

set_option maxRecDepth 20000 in
set_option maxHeartbeats 8000000 in
theorem pieceOf_any (w : World) (s : Sec) (hs : s.length = 512) {o : Option Pc} (ho : pieceOf s = o) :
    Calls Tryz.prog 105 #[.agg (bv s).toArray] w fun r w' => PRes w w' r o := by
  have HPO := Lib.hid ho
  clear ho
  have hV := boxed_row w s hs
  obtain ⟨w1, hw1⟩ : ∃ w1, w1 = w.alloc (.cells (bv s).toArray 133) := ⟨_, rfl⟩
  rw [← hw1] at hV
  have o1 : Only None' w w1 := by rw [hw1]; exact (Only.refl _ _).alloc _
  have hs1 : w1.heap.size = w.heap.size + 1 := by rw [hw1]; simp
  have e1 := hw1.symm
  have HV := Lib.hid (hV.alloc (.cells #[.int .i64 0, .bool false, .slice none 0 0] 132))
  have c8 := bv_cell HV.out hs (j := 8) (by decide)
  have c9 := bv_cell HV.out hs (j := 9) (by decide)
  have c10 := bv_cell HV.out hs (j := 10) (by decide)
  rw [Nat.zero_add] at c8 c9 c10
  have HS := Lib.hid hs
  have HO := Lib.hid o1
  have H1 := Lib.hid hs1
  obtain ⟨a9, ha9⟩ : ∃ a, a = (s.getD 9 0).toNat := ⟨_, rfl⟩
  obtain ⟨a10, ha10⟩ : ∃ a, a = (s.getD 10 0).toNat := ⟨_, rfl⟩
  rw [← ha9] at c9
  rw [← ha10] at c10
  have esz := size_or (a := a9) (b := a10) (by rw [ha9]; exact UInt8.toNat_lt _) (by rw [ha10]; exact UInt8.toNat_lt _)
  obtain ⟨sz, hsz⟩ : ∃ sz, sz = pieceSize s := ⟨_, rfl⟩
  rw [ha9, ha10, show (s.getD 9 0).toNat + 256 * (s.getD 10 0).toNat = pieceSize s from rfl, ← hsz, ← ha9, ← ha10] at esz
  have HSZ := Lib.hid hsz
  clear hs hV o1 hs1 hw1 ha9 ha10 hsz
  go_enter Tryz.func105, Tryz.ntmps105
  go_wp2_with fail
  go_quiet (fail)
  go_wp2_with fail
  clear c9 c10 esz
  go_loopw [4, 16] (fun acc i wr => ∃ k q : Nat, k ≤ 8 ∧ i = .int .i64 (k : Int) ∧ acc = .int .u64 (num (s.take k) : Int) ∧ wr = (w1.alloc (.cells #[.int .i64 0, .bool false, .slice none 0 0] 132)).drewN q) (fun acc i wr => 8 - (intOf i).toNat)
  case atStart => exact ⟨0, nq, by omega, rfl, rfl, rfl⟩
  case round =>
    obtain ⟨k, q, hk, rfl, rfl, rfl⟩ := hrel
    by_cases hlt : k < 8
    · have i0 : (0 : Int) ≤ (k : Int) := by omega
      have i1 : (k : Int) < 8 := by omega
      have i2 : (k : Int) < 512 := by omega
      have ck := bv_cell HV.out HS.out (j := k) (by omega)
      rw [Nat.zero_add] at ck
      obtain ⟨c, hc⟩ : ∃ c, c = s.getD k 0 := ⟨_, rfl⟩
      rw [← hc] at ck
      have HC := Lib.hid hc
      clear hc
      go_wp2_with fail
      go_roundw
      case rel => exact ⟨k + 1, q, by omega, rfl, by rw [num_round HS.out hlt HC.out], rfl⟩
      case measure => simp [intOf]; omega
    · obtain rfl : k = 8 := by omega
      obtain ⟨n, hn⟩ : ∃ n, n = num (s.take 8) := ⟨_, rfl⟩
      rw [← hn]
      have HNN := Lib.hid hn
      clear hn
      have HK8 := Lib.hid hk
      clear hk hlt
      by_cases hbad : (n < 1 ∨ 4611686018427387904 < n) ∨ 501 < sz
      · have HBAD := Lib.hid hbad
        have z3 : (decide ((n : Int) < 1) || decide (4611686018427387904 < (n : Int)) || decide (501 < (sz : Int))) = true := by
          simp only [Bool.or_eq_true, decide_eq_true_eq]; omega
        clear hbad
        go_wp2_with fail
        all_goals (
          refine bodyPost_ret (v := .tuple #[.agg #[.int .i64 0, .bool false, .slice none 0 0], .bool false]) ?_ rfl ⟨?_, ?_⟩
          · rw [results_cell_tmp rfl]; go_simp
          · refine ((HO.out.alloc _).drewN q).trans2 ((((Only.refl (fun k => k = w1.heap.size) _).setCell (p := ⟨w1.heap.size, 0, none⟩) rfl _).setCell (p := ⟨w1.heap.size, 1, none⟩) rfl _).setCell (p := ⟨w1.heap.size, 2, none⟩) rfl _) fun k hk e => by have := H1.out; omega
          · have := HPO.out
            have hb := HBAD.out
            have e2 : n = pieceN s := HNN.out
            have e3 := HSZ.out
            unfold pieceOf at this
            simp only [← e2, ← e3] at this
            rw [if_pos (by omega)] at this
            subst this
            rfl)
      · have HBAD := Lib.hid hbad
        have z0 : ¬ (n : Int) < 1 := by omega
        have z1 : ¬ 4611686018427387904 < (n : Int) := by omega
        have z2 : ¬ 501 < (sz : Int) := by omega
        have HSZ5 : Hid (sz ≤ 501) := by show _ ≤ _; omega
        obtain ⟨W, hW⟩ : ∃ W, W = (w1.alloc (.cells #[.int .i64 0, .bool false, .slice none 0 0] 132)).drewN q := ⟨_, rfl⟩
        rw [← hW]
        obtain ⟨S, hS⟩ : ∃ S, S = w.heap.size := ⟨_, rfl⟩
        have HVW : Hid (Vec W 1 (.slice (some ⟨S, 0, none⟩) 512 512) 512 (bv s)) := by
          show Vec _ _ _ _ _
          rw [hW, hS]; exact HV.out.drewN q
        have HOW : Hid (Only None' w W) := by
          show Only _ _ _
          rw [hW]; exact (HO.out.alloc _).drewN q
        have HT2 : Hid (CellsR W w1.heap.size [.int .i64 0, .bool false, .slice none 0 0]) := by
          show CellsR _ _ _
          rw [hW]
          refine CellsR.kept (w := w1.alloc (.cells #[.int .i64 0, .bool false, .slice none 0 0] 132)) ⟨fun i u hu => ?_, fun i => World.frozen?_alloc_new _ _ _ _, by simp⟩ ((Only.refl None' _).drewN q) fun e => e
          rw [World.cell?_alloc_new]
          simpa using hu
        obtain ⟨T2, hT2⟩ : ∃ T2, T2 = w1.heap.size := ⟨_, rfl⟩
        have HWS : Hid (W.heap.size = T2 + 1 ∧ T2 = S + 1) := by
          refine ⟨?_, ?_⟩
          · rw [hW, hT2]; simp
          · rw [hT2, H1.out, hS]
        rw [← hT2] at HT2 ⊢
        have HTW := Lib.hid hT2
        rw [← hS] at *
        obtain ⟨data, hdata⟩ : ∃ d, d = (s.drop 11).take sz := ⟨_, rfl⟩
        have HDL : Hid (data.length = sz) := by
          have := HS.out
          have := HSZ5.out
          show _ = _
          rw [hdata]; simp; omega
        have HNEWS : Hid (∀ j u, (bv data)[j]? = some u → W.cell? ⟨S, 11 + j, none⟩ = some u) := by
          intro j u hu
          have := HVW.out.range (11 + j) u (by
            have h1 := bv_take' (s.drop 11) sz
            rw [hdata, ← h1] at hu
            have h2 := (List.getElem?_eq_some_iff.1 hu).1
            rw [List.getElem?_take_of_lt (by simp at h2; omega)] at hu
            simp only [bv, List.map_drop, List.getElem?_drop] at hu
            exact hu)
          rwa [Nat.zero_add] at this
        have HDATA := Lib.hid hdata
        obtain ⟨c8v, hc8⟩ : ∃ c : Nat, c = (s.getD 8 0).toNat := ⟨_, rfl⟩
        have HC8 : Hid (W.cell? ⟨S, 8, none⟩ = some (.int .u8 (c8v : Int))) := by
          have := bv_cell HVW.out HS.out (j := 8) (by decide)
          rw [Nat.zero_add, ← hc8] at this
          exact this
        obtain ⟨bl, hbl⟩ : ∃ bl : Bool, bl = ((c8v : Int) == 1) := ⟨_, rfl⟩
        have HBL := Lib.hid hbl
        have HC8V := Lib.hid hc8
        have en : IntKind.i64.wrap (n : Int) = (n : Int) := IntWalk.i64_in _ (by have := HBAD.out; omega)
        have en' : wrap64 (n : Int) = (n : Int) := IntWalk.wrap64_in _ (by have := HBAD.out; omega)
        have es : wrap64 (11 + (sz : Int)) = ((11 + sz : Nat) : Int) := by rw [IntWalk.wrap64_in _ (by have := HSZ5.out; omega)]; omega
        have es9 : IntKind.i64.wrap (11 + (sz : Int)) = 11 + (sz : Int) := IntWalk.i64_in _ (by have := HSZ5.out; omega)
        have es0 : ¬ (11 + (sz : Int)) < 11 := by omega
        have es1 : ¬ 512 < (11 + (sz : Int)) := by have := HSZ5.out; omega
        clear c8 e1 hW hdata hc8 hbl hT2
        go_upto_region 9 with fail
        go_cut [7] from 40 to 50 (fun p wx => ∃ g v, p = .pointer (some ⟨g, 0, none⟩) ∧ Made W wx g (n : Int) bl v (bv data) sz)
        case first =>
          refine wp_region_any (by kernel_rfl) ?_
          change wpAny _ _ _ _ _ _ _ (World.drew _)
          obtain ⟨wk0, hwk0⟩ : ∃ z, z = W.drew := ⟨_, rfl⟩
          rw [← hwk0]
          have WK : Hid (Wk W wk0 (bv data) sz none none none) := by show Wk _ _ _ _ _ _ _; rw [hwk0]; exact Wk.start W _ _
          clear hwk0
          refine any_take 0 (.int .u64 (n : Int)) rfl (by kernel_rfl) (by kernel_rfl) (by kernel_rfl) (fun _ _ _ h => h) (Or.inl ⟨by rfl, fun w => by go_simp⟩) ?_
          simp only [Act.put, zA, zB, zC]
          refine any_take 1 (.int .i64 (n : Int)) rfl (by kernel_rfl) (by kernel_rfl) (by kernel_rfl) (fun _ _ _ h => h) (Or.inl ⟨by rfl, fun w => by go_simp⟩) ?_
          simp only [Act.put, zA, zB, zC]
          refine any_take 2 (.pointer (some ⟨S, 8, none⟩)) rfl (by kernel_rfl) (by kernel_rfl) (by kernel_rfl) (fun _ _ _ h => h) (Or.inl ⟨by rfl, fun w => by go_simp⟩) ?_
          simp only [Act.put, zA, zB, zC]
          refine any_take 6 (.int .i64 (sz : Int)) rfl (by kernel_rfl) (by kernel_rfl) (by kernel_rfl) (fun _ _ _ h => h) (Or.inl ⟨by rfl, fun w => by go_simp⟩) ?_
          simp only [Act.put, zA, zB, zC]
          refine any_take 7 (.int .i64 ((11 + sz : Nat) : Int)) rfl (by kernel_rfl) (by kernel_rfl) (by kernel_rfl) (fun _ _ _ h => h) (Or.inl ⟨by rfl, fun w => by go_simp⟩) ?_
          simp only [Act.put, zA, zB, zC]
          refine any_take 8 (.slice (some ⟨S, 11, none⟩) sz 501) rfl (by kernel_rfl) (by kernel_rfl) (by kernel_rfl) (fun _ _ _ h => h) (Or.inl ⟨by rfl, fun w => yields_slice w HSZ5.out⟩) ?_
          simp only [Act.put, zA, zB, zC]
          refine wpAny_ready (rs := [3, 5, 11]) (by kernel_rfl) (by simp) ?_
          refine ready_cons rfl (fun K hK => ?_) (ready_cons rfl (fun K hK => ?_) (ready_cons rfl (fun K hK => ?_) AllReady.nil))
          · skip
            have ck := WK.out.cell (S, 8) _ HC8.out
            go_simp
            refine hK _ _ ?_
            clear hK K ck
            refine any_take 4 (.bool bl) rfl (by kernel_rfl) (by kernel_rfl) (by kernel_rfl) (fun _ _ _ h => h) (Or.inl ⟨by rfl, fun w => by go_simp; exact HBL.out.symm⟩) ?_
            simp only [Act.put, zA, zB, zC]
            refine wpAny_ready (rs := [5, 11]) (by kernel_rfl) (by simp) ?_
            refine ready_cons rfl (fun K hK => ?_) (ready_cons rfl (fun K hK => ?_) AllReady.nil)
            · skip
              go_simp
              refine hK _ _ ?_
              clear hK K
              obtain ⟨gb, hgb⟩ : ∃ gb, gb = wk0.heap.size := ⟨_, rfl⟩
              have WK' := WK.out.build
              change wpAny _ _ _ _ _ _ _ (wk0.alloc (.cells #[] 5))
              obtain ⟨wk1, hwk1⟩ : ∃ z, z = wk0.alloc (.cells #[] 5) := ⟨_, rfl⟩
              rw [← hgb, ← hwk1] at WK'
              rw [← hgb, ← hwk1]
              replace WK := Lib.hid WK'
              clear WK' hgb hwk1
              refine wpAny_ready (rs := [9, 11]) (by kernel_rfl) (by simp) ?_
              refine ready_cons rfl (fun K hK => ?_) (ready_cons rfl (fun K hK => ?_) AllReady.nil)
              · skip
                refine step_vec_append _ rfl _ _ 35 rfl 5 Tryz.t5 (.int .u8 0) 1 1 Tryz.underlying35 info5 zero5 (by kernel_rfl) (by kernel_rfl) (by kernel_rfl) (by decide) _ _ _ rfl WK.out.brow ⟨S, 11, none⟩ sz 501 (bv data) rfl (by rw [bv_length, HDL.out, Nat.mul_one]) (WK.out.news HNEWS.out) (bv_one _) (by have := HSZ5.out; unfold maxLen; omega) (by have := HSZ5.out; omega) ?_
                intro v' wk2 hv hg hf
                obtain ⟨va, vk, vc, rfl⟩ := hv.rd.shape'
                have WK' := WK.out.append hv hg hf
                refine hK _ _ ?_
                clear hK K hv hg hf
                simp only [Act.put, zA, zB, zC]
                replace WK := Lib.hid WK'
                clear WK'
                refine any_take 10 (.agg #[.int .i64 (n : Int), .bool bl, .slice va vk vc]) rfl (by kernel_rfl) (by kernel_rfl) (by kernel_rfl) (fun _ _ _ h => h) (Or.inl ⟨by rfl, fun w => by go_simp⟩) ?_
                simp only [Act.put, zA, zB, zC]
                refine wpAny_ready (rs := [11]) (by kernel_rfl) (by simp) ?_
                refine ready_cons rfl (fun K hK => ?_) AllReady.nil
                go_simp
                refine hK _ _ ?_
                clear hK K
                obtain ⟨gx, hgx⟩ : ∃ gx, gx = wk2.heap.size := ⟨_, rfl⟩
                have WK' := WK.out.alloc
                change wpAny _ _ _ _ _ _ _ (wk2.alloc (.cells #[.int .i64 0, .bool false, .slice none 0 0] 132))
                obtain ⟨wk3, hwk3⟩ : ∃ z, z = wk2.alloc (.cells #[.int .i64 0, .bool false, .slice none 0 0] 132) := ⟨_, rfl⟩
                rw [← hgx, ← hwk3] at WK'
                rw [← hgx, ← hwk3]
                replace WK := Lib.hid WK'
                clear WK' hgx hwk3
                refine wpAny_ready (rs := [12]) (by kernel_rfl) (by simp) ?_
                refine ready_cons rfl (fun K hK => ?_) AllReady.nil
                refine step_plain rfl ?_
                refine wp_store_mid 132 _ _ rfl gx 0 #[.int .i64 (n : Int), .bool bl, .slice va vk vc] rfl rfl WK.out.there (by rw [info119]; rfl) (by simp [Value.oneCell']) ?_
                refine hK _ _ ?_
                clear hK K
                have HM := Lib.hid (WK.out.made (n : Int) bl)
                refine wpAny_done (by kernel_rfl) ?_ _
                go_wp2_with fail
                go_meet
                exact ⟨gx, _, rfl, HM.out⟩
              · skip
                go_simp
                refine hK _ _ ?_
                clear hK K
                obtain ⟨gx, hgx⟩ : ∃ gx, gx = wk1.heap.size := ⟨_, rfl⟩
                have WK' := WK.out.alloc
                change wpAny _ _ _ _ _ _ _ (wk1.alloc (.cells #[.int .i64 0, .bool false, .slice none 0 0] 132))
                obtain ⟨wk2, hwk2⟩ : ∃ z, z = wk1.alloc (.cells #[.int .i64 0, .bool false, .slice none 0 0] 132) := ⟨_, rfl⟩
                rw [← hgx, ← hwk2] at WK'
                rw [← hgx, ← hwk2]
                replace WK := Lib.hid WK'
                clear WK' hgx hwk2
                refine wpAny_ready (rs := [9]) (by kernel_rfl) (by simp) ?_
                refine ready_cons rfl (fun K hK => ?_) AllReady.nil
                refine step_vec_append _ rfl _ _ 35 rfl 5 Tryz.t5 (.int .u8 0) 1 1 Tryz.underlying35 info5 zero5 (by kernel_rfl) (by kernel_rfl) (by kernel_rfl) (by decide) _ _ _ rfl WK.out.brow ⟨S, 11, none⟩ sz 501 (bv data) rfl (by rw [bv_length, HDL.out, Nat.mul_one]) (WK.out.news HNEWS.out) (bv_one _) (by have := HSZ5.out; unfold maxLen; omega) (by have := HSZ5.out; omega) ?_
                intro v' wk3 hv hg hf
                obtain ⟨va, vk, vc, rfl⟩ := hv.rd.shape'
                have WK' := WK.out.append hv hg hf
                refine hK _ _ ?_
                clear hK K hv hg hf
                simp only [Act.put, zA, zB, zC]
                replace WK := Lib.hid WK'
                clear WK'
                refine any_take 10 (.agg #[.int .i64 (n : Int), .bool bl, .slice va vk vc]) rfl (by kernel_rfl) (by kernel_rfl) (by kernel_rfl) (fun _ _ _ h => h) (Or.inl ⟨by rfl, fun w => by go_simp⟩) ?_
                simp only [Act.put, zA, zB, zC]
                refine wpAny_ready (rs := [12]) (by kernel_rfl) (by simp) ?_
                refine ready_cons rfl (fun K hK => ?_) AllReady.nil
                refine step_plain rfl ?_
                refine wp_store_mid 132 _ _ rfl gx 0 #[.int .i64 (n : Int), .bool bl, .slice va vk vc] rfl rfl WK.out.there (by rw [info119]; rfl) (by simp [Value.oneCell']) ?_
                refine hK _ _ ?_
                clear hK K
                have HM := Lib.hid (WK.out.made (n : Int) bl)
                refine wpAny_done (by kernel_rfl) ?_ _
                go_wp2_with fail
                go_meet
                exact ⟨gx, _, rfl, HM.out⟩
            · skip
              go_simp
              refine hK _ _ ?_
              clear hK K
              obtain ⟨gx, hgx⟩ : ∃ gx, gx = wk0.heap.size := ⟨_, rfl⟩
              have WK' := WK.out.alloc
              change wpAny _ _ _ _ _ _ _ (wk0.alloc (.cells #[.int .i64 0, .bool false, .slice none 0 0] 132))
              obtain ⟨wk1, hwk1⟩ : ∃ z, z = wk0.alloc (.cells #[.int .i64 0, .bool false, .slice none 0 0] 132) := ⟨_, rfl⟩
              rw [← hgx, ← hwk1] at WK'
              rw [← hgx, ← hwk1]
              replace WK := Lib.hid WK'
              clear WK' hgx hwk1
              refine wpAny_ready (rs := [5]) (by kernel_rfl) (by simp) ?_
              refine ready_cons rfl (fun K hK => ?_) AllReady.nil
              go_simp
              refine hK _ _ ?_
              clear hK K
              obtain ⟨gb, hgb⟩ : ∃ gb, gb = wk1.heap.size := ⟨_, rfl⟩
              have WK' := WK.out.build
              change wpAny _ _ _ _ _ _ _ (wk1.alloc (.cells #[] 5))
              obtain ⟨wk2, hwk2⟩ : ∃ z, z = wk1.alloc (.cells #[] 5) := ⟨_, rfl⟩
              rw [← hgb, ← hwk2] at WK'
              rw [← hgb, ← hwk2]
              replace WK := Lib.hid WK'
              clear WK' hgb hwk2
              refine wpAny_ready (rs := [9]) (by kernel_rfl) (by simp) ?_
              refine ready_cons rfl (fun K hK => ?_) AllReady.nil
              refine step_vec_append _ rfl _ _ 35 rfl 5 Tryz.t5 (.int .u8 0) 1 1 Tryz.underlying35 info5 zero5 (by kernel_rfl) (by kernel_rfl) (by kernel_rfl) (by decide) _ _ _ rfl WK.out.brow ⟨S, 11, none⟩ sz 501 (bv data) rfl (by rw [bv_length, HDL.out, Nat.mul_one]) (WK.out.news HNEWS.out) (bv_one _) (by have := HSZ5.out; unfold maxLen; omega) (by have := HSZ5.out; omega) ?_
              intro v' wk3 hv hg hf
              obtain ⟨va, vk, vc, rfl⟩ := hv.rd.shape'
              have WK' := WK.out.append hv hg hf
              refine hK _ _ ?_
              clear hK K hv hg hf
              simp only [Act.put, zA, zB, zC]
              replace WK := Lib.hid WK'
              clear WK'
              refine any_take 10 (.agg #[.int .i64 (n : Int), .bool bl, .slice va vk vc]) rfl (by kernel_rfl) (by kernel_rfl) (by kernel_rfl) (fun _ _ _ h => h) (Or.inl ⟨by rfl, fun w => by go_simp⟩) ?_
              simp only [Act.put, zA, zB, zC]
              refine wpAny_ready (rs := [12]) (by kernel_rfl) (by simp) ?_
              refine ready_cons rfl (fun K hK => ?_) AllReady.nil
              refine step_plain rfl ?_
              refine wp_store_mid 132 _ _ rfl gx 0 #[.int .i64 (n : Int), .bool bl, .slice va vk vc] rfl rfl WK.out.there (by rw [info119]; rfl) (by simp [Value.oneCell']) ?_
              refine hK _ _ ?_
              clear hK K
              have HM := Lib.hid (WK.out.made (n : Int) bl)
              refine wpAny_done (by kernel_rfl) ?_ _
              go_wp2_with fail
              go_meet
              exact ⟨gx, _, rfl, HM.out⟩
          · skip
            go_simp
            refine hK _ _ ?_
            clear hK K
            obtain ⟨gb, hgb⟩ : ∃ gb, gb = wk0.heap.size := ⟨_, rfl⟩
            have WK' := WK.out.build
            change wpAny _ _ _ _ _ _ _ (wk0.alloc (.cells #[] 5))
            obtain ⟨wk1, hwk1⟩ : ∃ z, z = wk0.alloc (.cells #[] 5) := ⟨_, rfl⟩
            rw [← hgb, ← hwk1] at WK'
            rw [← hgb, ← hwk1]
            replace WK := Lib.hid WK'
            clear WK' hgb hwk1
            refine wpAny_ready (rs := [3, 9, 11]) (by kernel_rfl) (by simp) ?_
            refine ready_cons rfl (fun K hK => ?_) (ready_cons rfl (fun K hK => ?_) (ready_cons rfl (fun K hK => ?_) AllReady.nil))
            · skip
              have ck := WK.out.cell (S, 8) _ HC8.out
              go_simp
              refine hK _ _ ?_
              clear hK K ck
              refine any_take 4 (.bool bl) rfl (by kernel_rfl) (by kernel_rfl) (by kernel_rfl) (fun _ _ _ h => h) (Or.inl ⟨by rfl, fun w => by go_simp; exact HBL.out.symm⟩) ?_
              simp only [Act.put, zA, zB, zC]
              refine wpAny_ready (rs := [9, 11]) (by kernel_rfl) (by simp) ?_
              refine ready_cons rfl (fun K hK => ?_) (ready_cons rfl (fun K hK => ?_) AllReady.nil)
              · skip
                refine step_vec_append _ rfl _ _ 35 rfl 5 Tryz.t5 (.int .u8 0) 1 1 Tryz.underlying35 info5 zero5 (by kernel_rfl) (by kernel_rfl) (by kernel_rfl) (by decide) _ _ _ rfl WK.out.brow ⟨S, 11, none⟩ sz 501 (bv data) rfl (by rw [bv_length, HDL.out, Nat.mul_one]) (WK.out.news HNEWS.out) (bv_one _) (by have := HSZ5.out; unfold maxLen; omega) (by have := HSZ5.out; omega) ?_
                intro v' wk2 hv hg hf
                obtain ⟨va, vk, vc, rfl⟩ := hv.rd.shape'
                have WK' := WK.out.append hv hg hf
                refine hK _ _ ?_
                clear hK K hv hg hf
                simp only [Act.put, zA, zB, zC]
                replace WK := Lib.hid WK'
                clear WK'
                refine any_take 10 (.agg #[.int .i64 (n : Int), .bool bl, .slice va vk vc]) rfl (by kernel_rfl) (by kernel_rfl) (by kernel_rfl) (fun _ _ _ h => h) (Or.inl ⟨by rfl, fun w => by go_simp⟩) ?_
                simp only [Act.put, zA, zB, zC]
                refine wpAny_ready (rs := [11]) (by kernel_rfl) (by simp) ?_
                refine ready_cons rfl (fun K hK => ?_) AllReady.nil
                go_simp
                refine hK _ _ ?_
                clear hK K
                obtain ⟨gx, hgx⟩ : ∃ gx, gx = wk2.heap.size := ⟨_, rfl⟩
                have WK' := WK.out.alloc
                change wpAny _ _ _ _ _ _ _ (wk2.alloc (.cells #[.int .i64 0, .bool false, .slice none 0 0] 132))
                obtain ⟨wk3, hwk3⟩ : ∃ z, z = wk2.alloc (.cells #[.int .i64 0, .bool false, .slice none 0 0] 132) := ⟨_, rfl⟩
                rw [← hgx, ← hwk3] at WK'
                rw [← hgx, ← hwk3]
                replace WK := Lib.hid WK'
                clear WK' hgx hwk3
                refine wpAny_ready (rs := [12]) (by kernel_rfl) (by simp) ?_
                refine ready_cons rfl (fun K hK => ?_) AllReady.nil
                refine step_plain rfl ?_
                refine wp_store_mid 132 _ _ rfl gx 0 #[.int .i64 (n : Int), .bool bl, .slice va vk vc] rfl rfl WK.out.there (by rw [info119]; rfl) (by simp [Value.oneCell']) ?_
                refine hK _ _ ?_
                clear hK K
                have HM := Lib.hid (WK.out.made (n : Int) bl)
                refine wpAny_done (by kernel_rfl) ?_ _
                go_wp2_with fail
                go_meet
                exact ⟨gx, _, rfl, HM.out⟩
              · skip
                go_simp
                refine hK _ _ ?_
                clear hK K
                obtain ⟨gx, hgx⟩ : ∃ gx, gx = wk1.heap.size := ⟨_, rfl⟩
                have WK' := WK.out.alloc
                change wpAny _ _ _ _ _ _ _ (wk1.alloc (.cells #[.int .i64 0, .bool false, .slice none 0 0] 132))
                obtain ⟨wk2, hwk2⟩ : ∃ z, z = wk1.alloc (.cells #[.int .i64 0, .bool false, .slice none 0 0] 132) := ⟨_, rfl⟩
                rw [← hgx, ← hwk2] at WK'
                rw [← hgx, ← hwk2]
                replace WK := Lib.hid WK'
                clear WK' hgx hwk2
                refine wpAny_ready (rs := [9]) (by kernel_rfl) (by simp) ?_
                refine ready_cons rfl (fun K hK => ?_) AllReady.nil
                refine step_vec_append _ rfl _ _ 35 rfl 5 Tryz.t5 (.int .u8 0) 1 1 Tryz.underlying35 info5 zero5 (by kernel_rfl) (by kernel_rfl) (by kernel_rfl) (by decide) _ _ _ rfl WK.out.brow ⟨S, 11, none⟩ sz 501 (bv data) rfl (by rw [bv_length, HDL.out, Nat.mul_one]) (WK.out.news HNEWS.out) (bv_one _) (by have := HSZ5.out; unfold maxLen; omega) (by have := HSZ5.out; omega) ?_
                intro v' wk3 hv hg hf
                obtain ⟨va, vk, vc, rfl⟩ := hv.rd.shape'
                have WK' := WK.out.append hv hg hf
                refine hK _ _ ?_
                clear hK K hv hg hf
                simp only [Act.put, zA, zB, zC]
                replace WK := Lib.hid WK'
                clear WK'
                refine any_take 10 (.agg #[.int .i64 (n : Int), .bool bl, .slice va vk vc]) rfl (by kernel_rfl) (by kernel_rfl) (by kernel_rfl) (fun _ _ _ h => h) (Or.inl ⟨by rfl, fun w => by go_simp⟩) ?_
                simp only [Act.put, zA, zB, zC]
                refine wpAny_ready (rs := [12]) (by kernel_rfl) (by simp) ?_
                refine ready_cons rfl (fun K hK => ?_) AllReady.nil
                refine step_plain rfl ?_
                refine wp_store_mid 132 _ _ rfl gx 0 #[.int .i64 (n : Int), .bool bl, .slice va vk vc] rfl rfl WK.out.there (by rw [info119]; rfl) (by simp [Value.oneCell']) ?_
                refine hK _ _ ?_
                clear hK K
                have HM := Lib.hid (WK.out.made (n : Int) bl)
                refine wpAny_done (by kernel_rfl) ?_ _
                go_wp2_with fail
                go_meet
                exact ⟨gx, _, rfl, HM.out⟩
            · skip
              refine step_vec_append _ rfl _ _ 35 rfl 5 Tryz.t5 (.int .u8 0) 1 1 Tryz.underlying35 info5 zero5 (by kernel_rfl) (by kernel_rfl) (by kernel_rfl) (by decide) _ _ _ rfl WK.out.brow ⟨S, 11, none⟩ sz 501 (bv data) rfl (by rw [bv_length, HDL.out, Nat.mul_one]) (WK.out.news HNEWS.out) (bv_one _) (by have := HSZ5.out; unfold maxLen; omega) (by have := HSZ5.out; omega) ?_
              intro v' wk2 hv hg hf
              obtain ⟨va, vk, vc, rfl⟩ := hv.rd.shape'
              have WK' := WK.out.append hv hg hf
              refine hK _ _ ?_
              clear hK K hv hg hf
              simp only [Act.put, zA, zB, zC]
              replace WK := Lib.hid WK'
              clear WK'
              refine wpAny_ready (rs := [3, 11]) (by kernel_rfl) (by simp) ?_
              refine ready_cons rfl (fun K hK => ?_) (ready_cons rfl (fun K hK => ?_) AllReady.nil)
              · skip
                have ck := WK.out.cell (S, 8) _ HC8.out
                go_simp
                refine hK _ _ ?_
                clear hK K ck
                refine any_take 4 (.bool bl) rfl (by kernel_rfl) (by kernel_rfl) (by kernel_rfl) (fun _ _ _ h => h) (Or.inl ⟨by rfl, fun w => by go_simp; exact HBL.out.symm⟩) ?_
                simp only [Act.put, zA, zB, zC]
                refine any_take 10 (.agg #[.int .i64 (n : Int), .bool bl, .slice va vk vc]) rfl (by kernel_rfl) (by kernel_rfl) (by kernel_rfl) (fun _ _ _ h => h) (Or.inl ⟨by rfl, fun w => by go_simp⟩) ?_
                simp only [Act.put, zA, zB, zC]
                refine wpAny_ready (rs := [11]) (by kernel_rfl) (by simp) ?_
                refine ready_cons rfl (fun K hK => ?_) AllReady.nil
                go_simp
                refine hK _ _ ?_
                clear hK K
                obtain ⟨gx, hgx⟩ : ∃ gx, gx = wk2.heap.size := ⟨_, rfl⟩
                have WK' := WK.out.alloc
                change wpAny _ _ _ _ _ _ _ (wk2.alloc (.cells #[.int .i64 0, .bool false, .slice none 0 0] 132))
                obtain ⟨wk3, hwk3⟩ : ∃ z, z = wk2.alloc (.cells #[.int .i64 0, .bool false, .slice none 0 0] 132) := ⟨_, rfl⟩
                rw [← hgx, ← hwk3] at WK'
                rw [← hgx, ← hwk3]
                replace WK := Lib.hid WK'
                clear WK' hgx hwk3
                refine wpAny_ready (rs := [12]) (by kernel_rfl) (by simp) ?_
                refine ready_cons rfl (fun K hK => ?_) AllReady.nil
                refine step_plain rfl ?_
                refine wp_store_mid 132 _ _ rfl gx 0 #[.int .i64 (n : Int), .bool bl, .slice va vk vc] rfl rfl WK.out.there (by rw [info119]; rfl) (by simp [Value.oneCell']) ?_
                refine hK _ _ ?_
                clear hK K
                have HM := Lib.hid (WK.out.made (n : Int) bl)
                refine wpAny_done (by kernel_rfl) ?_ _
                go_wp2_with fail
                go_meet
                exact ⟨gx, _, rfl, HM.out⟩
              · skip
                go_simp
                refine hK _ _ ?_
                clear hK K
                obtain ⟨gx, hgx⟩ : ∃ gx, gx = wk2.heap.size := ⟨_, rfl⟩
                have WK' := WK.out.alloc
                change wpAny _ _ _ _ _ _ _ (wk2.alloc (.cells #[.int .i64 0, .bool false, .slice none 0 0] 132))
                obtain ⟨wk3, hwk3⟩ : ∃ z, z = wk2.alloc (.cells #[.int .i64 0, .bool false, .slice none 0 0] 132) := ⟨_, rfl⟩
                rw [← hgx, ← hwk3] at WK'
                rw [← hgx, ← hwk3]
                replace WK := Lib.hid WK'
                clear WK' hgx hwk3
                refine wpAny_ready (rs := [3]) (by kernel_rfl) (by simp) ?_
                refine ready_cons rfl (fun K hK => ?_) AllReady.nil
                have ck := WK.out.cell (S, 8) _ HC8.out
                go_simp
                refine hK _ _ ?_
                clear hK K ck
                refine any_take 4 (.bool bl) rfl (by kernel_rfl) (by kernel_rfl) (by kernel_rfl) (fun _ _ _ h => h) (Or.inl ⟨by rfl, fun w => by go_simp; exact HBL.out.symm⟩) ?_
                simp only [Act.put, zA, zB, zC]
                refine any_take 10 (.agg #[.int .i64 (n : Int), .bool bl, .slice va vk vc]) rfl (by kernel_rfl) (by kernel_rfl) (by kernel_rfl) (fun _ _ _ h => h) (Or.inl ⟨by rfl, fun w => by go_simp⟩) ?_
                simp only [Act.put, zA, zB, zC]
                refine wpAny_ready (rs := [12]) (by kernel_rfl) (by simp) ?_
                refine ready_cons rfl (fun K hK => ?_) AllReady.nil
                refine step_plain rfl ?_
                refine wp_store_mid 132 _ _ rfl gx 0 #[.int .i64 (n : Int), .bool bl, .slice va vk vc] rfl rfl WK.out.there (by rw [info119]; rfl) (by simp [Value.oneCell']) ?_
                refine hK _ _ ?_
                clear hK K
                have HM := Lib.hid (WK.out.made (n : Int) bl)
                refine wpAny_done (by kernel_rfl) ?_ _
                go_wp2_with fail
                go_meet
                exact ⟨gx, _, rfl, HM.out⟩
            · skip
              go_simp
              refine hK _ _ ?_
              clear hK K
              obtain ⟨gx, hgx⟩ : ∃ gx, gx = wk1.heap.size := ⟨_, rfl⟩
              have WK' := WK.out.alloc
              change wpAny _ _ _ _ _ _ _ (wk1.alloc (.cells #[.int .i64 0, .bool false, .slice none 0 0] 132))
              obtain ⟨wk2, hwk2⟩ : ∃ z, z = wk1.alloc (.cells #[.int .i64 0, .bool false, .slice none 0 0] 132) := ⟨_, rfl⟩
              rw [← hgx, ← hwk2] at WK'
              rw [← hgx, ← hwk2]
              replace WK := Lib.hid WK'
              clear WK' hgx hwk2
              refine wpAny_ready (rs := [3, 9]) (by kernel_rfl) (by simp) ?_
              refine ready_cons rfl (fun K hK => ?_) (ready_cons rfl (fun K hK => ?_) AllReady.nil)
              · skip
                have ck := WK.out.cell (S, 8) _ HC8.out
                go_simp
                refine hK _ _ ?_
                clear hK K ck
                refine any_take 4 (.bool bl) rfl (by kernel_rfl) (by kernel_rfl) (by kernel_rfl) (fun _ _ _ h => h) (Or.inl ⟨by rfl, fun w => by go_simp; exact HBL.out.symm⟩) ?_
                simp only [Act.put, zA, zB, zC]
                refine wpAny_ready (rs := [9]) (by kernel_rfl) (by simp) ?_
                refine ready_cons rfl (fun K hK => ?_) AllReady.nil
                refine step_vec_append _ rfl _ _ 35 rfl 5 Tryz.t5 (.int .u8 0) 1 1 Tryz.underlying35 info5 zero5 (by kernel_rfl) (by kernel_rfl) (by kernel_rfl) (by decide) _ _ _ rfl WK.out.brow ⟨S, 11, none⟩ sz 501 (bv data) rfl (by rw [bv_length, HDL.out, Nat.mul_one]) (WK.out.news HNEWS.out) (bv_one _) (by have := HSZ5.out; unfold maxLen; omega) (by have := HSZ5.out; omega) ?_
                intro v' wk3 hv hg hf
                obtain ⟨va, vk, vc, rfl⟩ := hv.rd.shape'
                have WK' := WK.out.append hv hg hf
                refine hK _ _ ?_
                clear hK K hv hg hf
                simp only [Act.put, zA, zB, zC]
                replace WK := Lib.hid WK'
                clear WK'
                refine any_take 10 (.agg #[.int .i64 (n : Int), .bool bl, .slice va vk vc]) rfl (by kernel_rfl) (by kernel_rfl) (by kernel_rfl) (fun _ _ _ h => h) (Or.inl ⟨by rfl, fun w => by go_simp⟩) ?_
                simp only [Act.put, zA, zB, zC]
                refine wpAny_ready (rs := [12]) (by kernel_rfl) (by simp) ?_
                refine ready_cons rfl (fun K hK => ?_) AllReady.nil
                refine step_plain rfl ?_
                refine wp_store_mid 132 _ _ rfl gx 0 #[.int .i64 (n : Int), .bool bl, .slice va vk vc] rfl rfl WK.out.there (by rw [info119]; rfl) (by simp [Value.oneCell']) ?_
                refine hK _ _ ?_
                clear hK K
                have HM := Lib.hid (WK.out.made (n : Int) bl)
                refine wpAny_done (by kernel_rfl) ?_ _
                go_wp2_with fail
                go_meet
                exact ⟨gx, _, rfl, HM.out⟩
              · skip
                refine step_vec_append _ rfl _ _ 35 rfl 5 Tryz.t5 (.int .u8 0) 1 1 Tryz.underlying35 info5 zero5 (by kernel_rfl) (by kernel_rfl) (by kernel_rfl) (by decide) _ _ _ rfl WK.out.brow ⟨S, 11, none⟩ sz 501 (bv data) rfl (by rw [bv_length, HDL.out, Nat.mul_one]) (WK.out.news HNEWS.out) (bv_one _) (by have := HSZ5.out; unfold maxLen; omega) (by have := HSZ5.out; omega) ?_
                intro v' wk3 hv hg hf
                obtain ⟨va, vk, vc, rfl⟩ := hv.rd.shape'
                have WK' := WK.out.append hv hg hf
                refine hK _ _ ?_
                clear hK K hv hg hf
                simp only [Act.put, zA, zB, zC]
                replace WK := Lib.hid WK'
                clear WK'
                refine wpAny_ready (rs := [3]) (by kernel_rfl) (by simp) ?_
                refine ready_cons rfl (fun K hK => ?_) AllReady.nil
                have ck := WK.out.cell (S, 8) _ HC8.out
                go_simp
                refine hK _ _ ?_
                clear hK K ck
                refine any_take 4 (.bool bl) rfl (by kernel_rfl) (by kernel_rfl) (by kernel_rfl) (fun _ _ _ h => h) (Or.inl ⟨by rfl, fun w => by go_simp; exact HBL.out.symm⟩) ?_
                simp only [Act.put, zA, zB, zC]
                refine any_take 10 (.agg #[.int .i64 (n : Int), .bool bl, .slice va vk vc]) rfl (by kernel_rfl) (by kernel_rfl) (by kernel_rfl) (fun _ _ _ h => h) (Or.inl ⟨by rfl, fun w => by go_simp⟩) ?_
                simp only [Act.put, zA, zB, zC]
                refine wpAny_ready (rs := [12]) (by kernel_rfl) (by simp) ?_
                refine ready_cons rfl (fun K hK => ?_) AllReady.nil
                refine step_plain rfl ?_
                refine wp_store_mid 132 _ _ rfl gx 0 #[.int .i64 (n : Int), .bool bl, .slice va vk vc] rfl rfl WK.out.there (by rw [info119]; rfl) (by simp [Value.oneCell']) ?_
                refine hK _ _ ?_
                clear hK K
                have HM := Lib.hid (WK.out.made (n : Int) bl)
                refine wpAny_done (by kernel_rfl) ?_ _
                go_wp2_with fail
                go_meet
                exact ⟨gx, _, rfl, HM.out⟩
          · skip
            go_simp
            refine hK _ _ ?_
            clear hK K
            obtain ⟨gx, hgx⟩ : ∃ gx, gx = wk0.heap.size := ⟨_, rfl⟩
            have WK' := WK.out.alloc
            change wpAny _ _ _ _ _ _ _ (wk0.alloc (.cells #[.int .i64 0, .bool false, .slice none 0 0] 132))
            obtain ⟨wk1, hwk1⟩ : ∃ z, z = wk0.alloc (.cells #[.int .i64 0, .bool false, .slice none 0 0] 132) := ⟨_, rfl⟩
            rw [← hgx, ← hwk1] at WK'
            rw [← hgx, ← hwk1]
            replace WK := Lib.hid WK'
            clear WK' hgx hwk1
            refine wpAny_ready (rs := [3, 5]) (by kernel_rfl) (by simp) ?_
            refine ready_cons rfl (fun K hK => ?_) (ready_cons rfl (fun K hK => ?_) AllReady.nil)
            · skip
              have ck := WK.out.cell (S, 8) _ HC8.out
              go_simp
              refine hK _ _ ?_
              clear hK K ck
              refine any_take 4 (.bool bl) rfl (by kernel_rfl) (by kernel_rfl) (by kernel_rfl) (fun _ _ _ h => h) (Or.inl ⟨by rfl, fun w => by go_simp; exact HBL.out.symm⟩) ?_
              simp only [Act.put, zA, zB, zC]
              refine wpAny_ready (rs := [5]) (by kernel_rfl) (by simp) ?_
              refine ready_cons rfl (fun K hK => ?_) AllReady.nil
              go_simp
              refine hK _ _ ?_
              clear hK K
              obtain ⟨gb, hgb⟩ : ∃ gb, gb = wk1.heap.size := ⟨_, rfl⟩
              have WK' := WK.out.build
              change wpAny _ _ _ _ _ _ _ (wk1.alloc (.cells #[] 5))
              obtain ⟨wk2, hwk2⟩ : ∃ z, z = wk1.alloc (.cells #[] 5) := ⟨_, rfl⟩
              rw [← hgb, ← hwk2] at WK'
              rw [← hgb, ← hwk2]
              replace WK := Lib.hid WK'
              clear WK' hgb hwk2
              refine wpAny_ready (rs := [9]) (by kernel_rfl) (by simp) ?_
              refine ready_cons rfl (fun K hK => ?_) AllReady.nil
              refine step_vec_append _ rfl _ _ 35 rfl 5 Tryz.t5 (.int .u8 0) 1 1 Tryz.underlying35 info5 zero5 (by kernel_rfl) (by kernel_rfl) (by kernel_rfl) (by decide) _ _ _ rfl WK.out.brow ⟨S, 11, none⟩ sz 501 (bv data) rfl (by rw [bv_length, HDL.out, Nat.mul_one]) (WK.out.news HNEWS.out) (bv_one _) (by have := HSZ5.out; unfold maxLen; omega) (by have := HSZ5.out; omega) ?_
              intro v' wk3 hv hg hf
              obtain ⟨va, vk, vc, rfl⟩ := hv.rd.shape'
              have WK' := WK.out.append hv hg hf
              refine hK _ _ ?_
              clear hK K hv hg hf
              simp only [Act.put, zA, zB, zC]
              replace WK := Lib.hid WK'
              clear WK'
              refine any_take 10 (.agg #[.int .i64 (n : Int), .bool bl, .slice va vk vc]) rfl (by kernel_rfl) (by kernel_rfl) (by kernel_rfl) (fun _ _ _ h => h) (Or.inl ⟨by rfl, fun w => by go_simp⟩) ?_
              simp only [Act.put, zA, zB, zC]
              refine wpAny_ready (rs := [12]) (by kernel_rfl) (by simp) ?_
              refine ready_cons rfl (fun K hK => ?_) AllReady.nil
              refine step_plain rfl ?_
              refine wp_store_mid 132 _ _ rfl gx 0 #[.int .i64 (n : Int), .bool bl, .slice va vk vc] rfl rfl WK.out.there (by rw [info119]; rfl) (by simp [Value.oneCell']) ?_
              refine hK _ _ ?_
              clear hK K
              have HM := Lib.hid (WK.out.made (n : Int) bl)
              refine wpAny_done (by kernel_rfl) ?_ _
              go_wp2_with fail
              go_meet
              exact ⟨gx, _, rfl, HM.out⟩
            · skip
              go_simp
              refine hK _ _ ?_
              clear hK K
              obtain ⟨gb, hgb⟩ : ∃ gb, gb = wk1.heap.size := ⟨_, rfl⟩
              have WK' := WK.out.build
              change wpAny _ _ _ _ _ _ _ (wk1.alloc (.cells #[] 5))
              obtain ⟨wk2, hwk2⟩ : ∃ z, z = wk1.alloc (.cells #[] 5) := ⟨_, rfl⟩
              rw [← hgb, ← hwk2] at WK'
              rw [← hgb, ← hwk2]
              replace WK := Lib.hid WK'
              clear WK' hgb hwk2
              refine wpAny_ready (rs := [3, 9]) (by kernel_rfl) (by simp) ?_
              refine ready_cons rfl (fun K hK => ?_) (ready_cons rfl (fun K hK => ?_) AllReady.nil)
              · skip
                have ck := WK.out.cell (S, 8) _ HC8.out
                go_simp
                refine hK _ _ ?_
                clear hK K ck
                refine any_take 4 (.bool bl) rfl (by kernel_rfl) (by kernel_rfl) (by kernel_rfl) (fun _ _ _ h => h) (Or.inl ⟨by rfl, fun w => by go_simp; exact HBL.out.symm⟩) ?_
                simp only [Act.put, zA, zB, zC]
                refine wpAny_ready (rs := [9]) (by kernel_rfl) (by simp) ?_
                refine ready_cons rfl (fun K hK => ?_) AllReady.nil
                refine step_vec_append _ rfl _ _ 35 rfl 5 Tryz.t5 (.int .u8 0) 1 1 Tryz.underlying35 info5 zero5 (by kernel_rfl) (by kernel_rfl) (by kernel_rfl) (by decide) _ _ _ rfl WK.out.brow ⟨S, 11, none⟩ sz 501 (bv data) rfl (by rw [bv_length, HDL.out, Nat.mul_one]) (WK.out.news HNEWS.out) (bv_one _) (by have := HSZ5.out; unfold maxLen; omega) (by have := HSZ5.out; omega) ?_
                intro v' wk3 hv hg hf
                obtain ⟨va, vk, vc, rfl⟩ := hv.rd.shape'
                have WK' := WK.out.append hv hg hf
                refine hK _ _ ?_
                clear hK K hv hg hf
                simp only [Act.put, zA, zB, zC]
                replace WK := Lib.hid WK'
                clear WK'
                refine any_take 10 (.agg #[.int .i64 (n : Int), .bool bl, .slice va vk vc]) rfl (by kernel_rfl) (by kernel_rfl) (by kernel_rfl) (fun _ _ _ h => h) (Or.inl ⟨by rfl, fun w => by go_simp⟩) ?_
                simp only [Act.put, zA, zB, zC]
                refine wpAny_ready (rs := [12]) (by kernel_rfl) (by simp) ?_
                refine ready_cons rfl (fun K hK => ?_) AllReady.nil
                refine step_plain rfl ?_
                refine wp_store_mid 132 _ _ rfl gx 0 #[.int .i64 (n : Int), .bool bl, .slice va vk vc] rfl rfl WK.out.there (by rw [info119]; rfl) (by simp [Value.oneCell']) ?_
                refine hK _ _ ?_
                clear hK K
                have HM := Lib.hid (WK.out.made (n : Int) bl)
                refine wpAny_done (by kernel_rfl) ?_ _
                go_wp2_with fail
                go_meet
                exact ⟨gx, _, rfl, HM.out⟩
              · skip
                refine step_vec_append _ rfl _ _ 35 rfl 5 Tryz.t5 (.int .u8 0) 1 1 Tryz.underlying35 info5 zero5 (by kernel_rfl) (by kernel_rfl) (by kernel_rfl) (by decide) _ _ _ rfl WK.out.brow ⟨S, 11, none⟩ sz 501 (bv data) rfl (by rw [bv_length, HDL.out, Nat.mul_one]) (WK.out.news HNEWS.out) (bv_one _) (by have := HSZ5.out; unfold maxLen; omega) (by have := HSZ5.out; omega) ?_
                intro v' wk3 hv hg hf
                obtain ⟨va, vk, vc, rfl⟩ := hv.rd.shape'
                have WK' := WK.out.append hv hg hf
                refine hK _ _ ?_
                clear hK K hv hg hf
                simp only [Act.put, zA, zB, zC]
                replace WK := Lib.hid WK'
                clear WK'
                refine wpAny_ready (rs := [3]) (by kernel_rfl) (by simp) ?_
                refine ready_cons rfl (fun K hK => ?_) AllReady.nil
                have ck := WK.out.cell (S, 8) _ HC8.out
                go_simp
                refine hK _ _ ?_
                clear hK K ck
                refine any_take 4 (.bool bl) rfl (by kernel_rfl) (by kernel_rfl) (by kernel_rfl) (fun _ _ _ h => h) (Or.inl ⟨by rfl, fun w => by go_simp; exact HBL.out.symm⟩) ?_
                simp only [Act.put, zA, zB, zC]
                refine any_take 10 (.agg #[.int .i64 (n : Int), .bool bl, .slice va vk vc]) rfl (by kernel_rfl) (by kernel_rfl) (by kernel_rfl) (fun _ _ _ h => h) (Or.inl ⟨by rfl, fun w => by go_simp⟩) ?_
                simp only [Act.put, zA, zB, zC]
                refine wpAny_ready (rs := [12]) (by kernel_rfl) (by simp) ?_
                refine ready_cons rfl (fun K hK => ?_) AllReady.nil
                refine step_plain rfl ?_
                refine wp_store_mid 132 _ _ rfl gx 0 #[.int .i64 (n : Int), .bool bl, .slice va vk vc] rfl rfl WK.out.there (by rw [info119]; rfl) (by simp [Value.oneCell']) ?_
                refine hK _ _ ?_
                clear hK K
                have HM := Lib.hid (WK.out.made (n : Int) bl)
                refine wpAny_done (by kernel_rfl) ?_ _
                go_wp2_with fail
                go_meet
                exact ⟨gx, _, rfl, HM.out⟩
        case rest =>
          obtain ⟨g, v, rfl, hM⟩ := hcut
          obtain ⟨va, vk, vc, rfl⟩ := hM.vec.rd.shape'
          have HM := Lib.hid hM
          have HN := Lib.hid (And.intro z0 z1)
          obtain ⟨lay, hlay⟩ : ∃ l, l = Pc.lay ⟨n, bl, data⟩ := ⟨_, rfl⟩
          have HLL : Hid (lay.length = 512) := by
            show _ = _
            rw [hlay]
            exact Pc.lay_length _ (by have := HDL.out; have := HSZ5.out; show data.length ≤ 501; omega)
          have HVC : Hid (Vec wc 1 (.slice (some ⟨S, 0, none⟩) 512 512) 512 (bv s)) := HVW.out.only hM.only fun _ _ e => e
          have HSEC : Hid (∀ wx, Only None' wc wx → Calls Tryz.prog 86 #[.agg #[.int .i64 (n : Int), .bool bl, .slice va vk vc]] wx fun r w' => r = .returned (.agg (bv lay).toArray) ∧ Only None' wx w') := by
            intro wx hx
            rw [hlay]
            refine sector_any wx ⟨n, bl, data⟩ (by have := HBAD.out; show n ≤ _; omega) (by have := HDL.out; have := HSZ5.out; show data.length ≤ 501; omega) (.slice va vk vc) ?_
            have := (HM.out.vec.only hx fun _ _ e => e).rd
            rw [show (Pc.data ⟨n, bl, data⟩).length = sz from HDL.out]
            exact this
          have HP : Hid (pieceOf s = if lay ≠ s ∨ (bl = false ∧ sz ≠ 501) then none else some ⟨n, bl, data⟩) := by
            have e1 : bl = (s.getD 8 0 == 1) := by
              rw [HBL.out, HC8V.out, Bool.eq_iff_iff]
              simp only [beq_iff_eq]
              rw [← UInt8.toNat_inj]
              show _ ↔ (s.getD 8 0).toNat = 1
              omega
            have e2 : n = pieceN s := HNN.out
            have e3 := HSZ.out
            have e4 := HDATA.out
            have hb := HBAD.out
            show _ = _
            unfold pieceOf
            simp only [← e2, ← e3, ← e1, ← e4]
            rw [if_neg (by omega), hlay]
          have HT := Lib.hid (HT2.out.kept hM.only fun e => e)
          clear hlay hM z0 z1 z2 es0 es1 es es9 en en' hS
          go_upto_region 10 with fail
          go_cut [63] from 51 to 62 (fun c wx => c = .bool (decide (lay ≠ s ∨ (bl = false ∧ sz ≠ 501))) ∧ Only None' wc wx)
          case first =>
            by_cases h1 : lay = s
            · have NB := Lib.hid (show decide (lay = s) = true by simpa using h1)
              cases bl
              · obtain ⟨q5, hq5⟩ : ∃ q : Bool, q = ((sz : Int) != 501) := ⟨_, rfl⟩
                have HQ5 := Lib.hid hq5.symm
                have RES : Hid (q5 = decide (lay ≠ s ∨ (false = false ∧ sz ≠ 501))) := by
                  show _ = _
                  rw [hq5, Bool.eq_iff_iff, decide_eq_true_eq]
                  simp only [bne_iff_ne, ne_eq, h1, not_true, false_or, true_and]
                  omega
                clear hq5 h1
                refine wp_region_any (by kernel_rfl) ?_
                change wpAny _ _ _ _ _ _ _ (World.drew _)
                have HO : Hid (Only None' wc wc.drew) := (Only.refl _ _).drew
                obtain ⟨wk0, hwk0⟩ : ∃ z, z = wc.drew := ⟨_, rfl⟩
                rw [← hwk0] at HO ⊢
                clear hwk0
                refine wpAny_ready (rs := [0, 2]) (by kernel_rfl) (by simp) ?_
                refine ready_cons rfl (fun K hK => ?_) (ready_cons rfl (fun K hK => ?_) AllReady.nil)
                · skip
                  have hr0 := HM.out.cells.kept HO.out fun e => e
                  have k0 := hr0.is 0 _ rfl
                  have k1 := hr0.is 1 _ rfl
                  have k2 := hr0.is 2 _ rfl
                  clear hr0
                  go_simp
                  refine hK _ _ ?_
                  clear hK K k0 k1 k2
                  refine wpAny_ready (rs := [1, 2]) (by kernel_rfl) (by simp) ?_
                  refine ready_cons rfl (fun K hK => ?_) (ready_cons rfl (fun K hK => ?_) AllReady.nil)
                  · skip
                    go_simp
                    refine (HSEC.out _ HO.out).mono ?_
                    rintro r wk1 ⟨rfl, o5⟩
                    go_simp
                    refine hK _ _ ?_
                    clear hK K
                    replace HO := Lib.hid (HO.out.trans o5)
                    clear o5
                    refine wpAny_ready (rs := [2]) (by kernel_rfl) (by simp) ?_
                    refine ready_cons rfl (fun K hK => ?_) AllReady.nil
                    refine step_plain rfl ?_
                    refine wp_load_mid 133 _ rfl S 0 rfl (bv s) _ ((HVC.out.only HO.out fun _ _ e => e).range) Tryz.underlying133 rfl (size124 s HS.out) ?_
                    refine hK _ _ ?_
                    clear hK K
                    simp only [Act.put, zA, zB, zC]
                    refine any_take 3 (.bool false) rfl (by kernel_rfl) (by kernel_rfl) (by kernel_rfl) (fun _ _ _ h => h) (Or.inl ⟨by rfl, fun w => (yields_neq124 w _ s HLL.out HS.out rfl rfl rfl).trans (by rw [NB.out]; rfl)⟩) ?_
                    simp only [Act.put, zA, zB, zC]
                    refine any_take 4 (.bool false) rfl (by kernel_rfl) (by kernel_rfl) (by kernel_rfl) (fun _ _ _ h => h) (Or.inl ⟨by rfl, fun w => by go_simp⟩) ?_
                    simp only [Act.put, zA, zB, zC]
                    refine any_take 5 (.pointer (some ⟨g, 1, none⟩)) rfl (by kernel_rfl) (by kernel_rfl) (by kernel_rfl) (fun _ _ _ h => h) (Or.inl ⟨by rfl, fun w => by go_simp⟩) ?_
                    simp only [Act.put, zA, zB, zC]
                    refine wpAny_ready (rs := [6]) (by kernel_rfl) (by simp) ?_
                    refine ready_cons rfl (fun K hK => ?_) AllReady.nil
                    have ck := (HM.out.cells.kept HO.out fun e => e).is 1 _ rfl
                    go_simp
                    refine hK _ _ ?_
                    clear hK K ck
                    refine any_take 7 (.bool true) rfl (by kernel_rfl) (by kernel_rfl) (by kernel_rfl) (fun _ _ _ h => h) (Or.inl ⟨by rfl, fun w => by go_simp⟩) ?_
                    simp only [Act.put, zA, zB, zC]
                    refine any_take 8 (.bool true) rfl (by kernel_rfl) (by kernel_rfl) (by kernel_rfl) (fun _ _ _ h => h) (Or.inl ⟨by rfl, fun w => by go_simp⟩) ?_
                    simp only [Act.put, zA, zB, zC]
                    refine any_take 9 (.int .i64 (sz : Int)) rfl (by kernel_rfl) (by kernel_rfl) (by kernel_rfl) (fun _ _ _ h => h) (Or.inl ⟨by rfl, fun w => by go_simp⟩) ?_
                    simp only [Act.put, zA, zB, zC]
                    refine any_take 10 (.bool q5) rfl (by kernel_rfl) (by kernel_rfl) (by kernel_rfl) (fun _ _ _ h => h) (Or.inl ⟨by rfl, fun w => by go_simp; exact HQ5.out⟩) ?_
                    simp only [Act.put, zA, zB, zC]
                    refine any_take 11 (.bool q5) rfl (by kernel_rfl) (by kernel_rfl) (by kernel_rfl) (fun _ _ _ h => h) (Or.inl ⟨by rfl, fun w => by go_simp⟩) ?_
                    simp only [Act.put, zA, zB, zC]
                    refine any_take 12 (.bool q5) rfl (by kernel_rfl) (by kernel_rfl) (by kernel_rfl) (fun _ _ _ h => h) (Or.inl ⟨by rfl, fun w => by go_simp⟩) ?_
                    simp only [Act.put, zA, zB, zC]
                    refine wpAny_done (by kernel_rfl) ?_ _
                    go_wp2_with fail
                    go_meet
                    exact ⟨congrArg Value.bool RES.out, HO.out⟩
                  · skip
                    refine step_plain rfl ?_
                    refine wp_load_mid 133 _ rfl S 0 rfl (bv s) _ ((HVC.out.only HO.out fun _ _ e => e).range) Tryz.underlying133 rfl (size124 s HS.out) ?_
                    refine hK _ _ ?_
                    clear hK K
                    simp only [Act.put, zA, zB, zC]
                    refine wpAny_ready (rs := [1]) (by kernel_rfl) (by simp) ?_
                    refine ready_cons rfl (fun K hK => ?_) AllReady.nil
                    go_simp
                    refine (HSEC.out _ HO.out).mono ?_
                    rintro r wk1 ⟨rfl, o5⟩
                    go_simp
                    refine hK _ _ ?_
                    clear hK K
                    replace HO := Lib.hid (HO.out.trans o5)
                    clear o5
                    refine any_take 3 (.bool false) rfl (by kernel_rfl) (by kernel_rfl) (by kernel_rfl) (fun _ _ _ h => h) (Or.inl ⟨by rfl, fun w => (yields_neq124 w _ s HLL.out HS.out rfl rfl rfl).trans (by rw [NB.out]; rfl)⟩) ?_
                    simp only [Act.put, zA, zB, zC]
                    refine any_take 4 (.bool false) rfl (by kernel_rfl) (by kernel_rfl) (by kernel_rfl) (fun _ _ _ h => h) (Or.inl ⟨by rfl, fun w => by go_simp⟩) ?_
                    simp only [Act.put, zA, zB, zC]
                    refine any_take 5 (.pointer (some ⟨g, 1, none⟩)) rfl (by kernel_rfl) (by kernel_rfl) (by kernel_rfl) (fun _ _ _ h => h) (Or.inl ⟨by rfl, fun w => by go_simp⟩) ?_
                    simp only [Act.put, zA, zB, zC]
                    refine wpAny_ready (rs := [6]) (by kernel_rfl) (by simp) ?_
                    refine ready_cons rfl (fun K hK => ?_) AllReady.nil
                    have ck := (HM.out.cells.kept HO.out fun e => e).is 1 _ rfl
                    go_simp
                    refine hK _ _ ?_
                    clear hK K ck
                    refine any_take 7 (.bool true) rfl (by kernel_rfl) (by kernel_rfl) (by kernel_rfl) (fun _ _ _ h => h) (Or.inl ⟨by rfl, fun w => by go_simp⟩) ?_
                    simp only [Act.put, zA, zB, zC]
                    refine any_take 8 (.bool true) rfl (by kernel_rfl) (by kernel_rfl) (by kernel_rfl) (fun _ _ _ h => h) (Or.inl ⟨by rfl, fun w => by go_simp⟩) ?_
                    simp only [Act.put, zA, zB, zC]
                    refine any_take 9 (.int .i64 (sz : Int)) rfl (by kernel_rfl) (by kernel_rfl) (by kernel_rfl) (fun _ _ _ h => h) (Or.inl ⟨by rfl, fun w => by go_simp⟩) ?_
                    simp only [Act.put, zA, zB, zC]
                    refine any_take 10 (.bool q5) rfl (by kernel_rfl) (by kernel_rfl) (by kernel_rfl) (fun _ _ _ h => h) (Or.inl ⟨by rfl, fun w => by go_simp; exact HQ5.out⟩) ?_
                    simp only [Act.put, zA, zB, zC]
                    refine any_take 11 (.bool q5) rfl (by kernel_rfl) (by kernel_rfl) (by kernel_rfl) (fun _ _ _ h => h) (Or.inl ⟨by rfl, fun w => by go_simp⟩) ?_
                    simp only [Act.put, zA, zB, zC]
                    refine any_take 12 (.bool q5) rfl (by kernel_rfl) (by kernel_rfl) (by kernel_rfl) (fun _ _ _ h => h) (Or.inl ⟨by rfl, fun w => by go_simp⟩) ?_
                    simp only [Act.put, zA, zB, zC]
                    refine wpAny_done (by kernel_rfl) ?_ _
                    go_wp2_with fail
                    go_meet
                    exact ⟨congrArg Value.bool RES.out, HO.out⟩
                · skip
                  refine step_plain rfl ?_
                  refine wp_load_mid 133 _ rfl S 0 rfl (bv s) _ ((HVC.out.only HO.out fun _ _ e => e).range) Tryz.underlying133 rfl (size124 s HS.out) ?_
                  refine hK _ _ ?_
                  clear hK K
                  simp only [Act.put, zA, zB, zC]
                  refine wpAny_ready (rs := [0]) (by kernel_rfl) (by simp) ?_
                  refine ready_cons rfl (fun K hK => ?_) AllReady.nil
                  have hr0 := HM.out.cells.kept HO.out fun e => e
                  have k0 := hr0.is 0 _ rfl
                  have k1 := hr0.is 1 _ rfl
                  have k2 := hr0.is 2 _ rfl
                  clear hr0
                  go_simp
                  refine hK _ _ ?_
                  clear hK K k0 k1 k2
                  refine wpAny_ready (rs := [1]) (by kernel_rfl) (by simp) ?_
                  refine ready_cons rfl (fun K hK => ?_) AllReady.nil
                  go_simp
                  refine (HSEC.out _ HO.out).mono ?_
                  rintro r wk1 ⟨rfl, o5⟩
                  go_simp
                  refine hK _ _ ?_
                  clear hK K
                  replace HO := Lib.hid (HO.out.trans o5)
                  clear o5
                  refine any_take 3 (.bool false) rfl (by kernel_rfl) (by kernel_rfl) (by kernel_rfl) (fun _ _ _ h => h) (Or.inl ⟨by rfl, fun w => (yields_neq124 w _ s HLL.out HS.out rfl rfl rfl).trans (by rw [NB.out]; rfl)⟩) ?_
                  simp only [Act.put, zA, zB, zC]
                  refine any_take 4 (.bool false) rfl (by kernel_rfl) (by kernel_rfl) (by kernel_rfl) (fun _ _ _ h => h) (Or.inl ⟨by rfl, fun w => by go_simp⟩) ?_
                  simp only [Act.put, zA, zB, zC]
                  refine any_take 5 (.pointer (some ⟨g, 1, none⟩)) rfl (by kernel_rfl) (by kernel_rfl) (by kernel_rfl) (fun _ _ _ h => h) (Or.inl ⟨by rfl, fun w => by go_simp⟩) ?_
                  simp only [Act.put, zA, zB, zC]
                  refine wpAny_ready (rs := [6]) (by kernel_rfl) (by simp) ?_
                  refine ready_cons rfl (fun K hK => ?_) AllReady.nil
                  have ck := (HM.out.cells.kept HO.out fun e => e).is 1 _ rfl
                  go_simp
                  refine hK _ _ ?_
                  clear hK K ck
                  refine any_take 7 (.bool true) rfl (by kernel_rfl) (by kernel_rfl) (by kernel_rfl) (fun _ _ _ h => h) (Or.inl ⟨by rfl, fun w => by go_simp⟩) ?_
                  simp only [Act.put, zA, zB, zC]
                  refine any_take 8 (.bool true) rfl (by kernel_rfl) (by kernel_rfl) (by kernel_rfl) (fun _ _ _ h => h) (Or.inl ⟨by rfl, fun w => by go_simp⟩) ?_
                  simp only [Act.put, zA, zB, zC]
                  refine any_take 9 (.int .i64 (sz : Int)) rfl (by kernel_rfl) (by kernel_rfl) (by kernel_rfl) (fun _ _ _ h => h) (Or.inl ⟨by rfl, fun w => by go_simp⟩) ?_
                  simp only [Act.put, zA, zB, zC]
                  refine any_take 10 (.bool q5) rfl (by kernel_rfl) (by kernel_rfl) (by kernel_rfl) (fun _ _ _ h => h) (Or.inl ⟨by rfl, fun w => by go_simp; exact HQ5.out⟩) ?_
                  simp only [Act.put, zA, zB, zC]
                  refine any_take 11 (.bool q5) rfl (by kernel_rfl) (by kernel_rfl) (by kernel_rfl) (fun _ _ _ h => h) (Or.inl ⟨by rfl, fun w => by go_simp⟩) ?_
                  simp only [Act.put, zA, zB, zC]
                  refine any_take 12 (.bool q5) rfl (by kernel_rfl) (by kernel_rfl) (by kernel_rfl) (fun _ _ _ h => h) (Or.inl ⟨by rfl, fun w => by go_simp⟩) ?_
                  simp only [Act.put, zA, zB, zC]
                  refine wpAny_done (by kernel_rfl) ?_ _
                  go_wp2_with fail
                  go_meet
                  exact ⟨congrArg Value.bool RES.out, HO.out⟩
              · have RES : Hid (false = decide (lay ≠ s ∨ (true = false ∧ sz ≠ 501))) := by
                  show _ = _
                  simp [h1]
                clear h1
                refine wp_region_any (by kernel_rfl) ?_
                change wpAny _ _ _ _ _ _ _ (World.drew _)
                have HO : Hid (Only None' wc wc.drew) := (Only.refl _ _).drew
                obtain ⟨wk0, hwk0⟩ : ∃ z, z = wc.drew := ⟨_, rfl⟩
                rw [← hwk0] at HO ⊢
                clear hwk0
                refine wpAny_ready (rs := [0, 2]) (by kernel_rfl) (by simp) ?_
                refine ready_cons rfl (fun K hK => ?_) (ready_cons rfl (fun K hK => ?_) AllReady.nil)
                · skip
                  have hr0 := HM.out.cells.kept HO.out fun e => e
                  have k0 := hr0.is 0 _ rfl
                  have k1 := hr0.is 1 _ rfl
                  have k2 := hr0.is 2 _ rfl
                  clear hr0
                  go_simp
                  refine hK _ _ ?_
                  clear hK K k0 k1 k2
                  refine wpAny_ready (rs := [1, 2]) (by kernel_rfl) (by simp) ?_
                  refine ready_cons rfl (fun K hK => ?_) (ready_cons rfl (fun K hK => ?_) AllReady.nil)
                  · skip
                    go_simp
                    refine (HSEC.out _ HO.out).mono ?_
                    rintro r wk1 ⟨rfl, o5⟩
                    go_simp
                    refine hK _ _ ?_
                    clear hK K
                    replace HO := Lib.hid (HO.out.trans o5)
                    clear o5
                    refine wpAny_ready (rs := [2]) (by kernel_rfl) (by simp) ?_
                    refine ready_cons rfl (fun K hK => ?_) AllReady.nil
                    refine step_plain rfl ?_
                    refine wp_load_mid 133 _ rfl S 0 rfl (bv s) _ ((HVC.out.only HO.out fun _ _ e => e).range) Tryz.underlying133 rfl (size124 s HS.out) ?_
                    refine hK _ _ ?_
                    clear hK K
                    simp only [Act.put, zA, zB, zC]
                    refine any_take 3 (.bool false) rfl (by kernel_rfl) (by kernel_rfl) (by kernel_rfl) (fun _ _ _ h => h) (Or.inl ⟨by rfl, fun w => (yields_neq124 w _ s HLL.out HS.out rfl rfl rfl).trans (by rw [NB.out]; rfl)⟩) ?_
                    simp only [Act.put, zA, zB, zC]
                    refine any_take 4 (.bool false) rfl (by kernel_rfl) (by kernel_rfl) (by kernel_rfl) (fun _ _ _ h => h) (Or.inl ⟨by rfl, fun w => by go_simp⟩) ?_
                    simp only [Act.put, zA, zB, zC]
                    refine any_take 5 (.pointer (some ⟨g, 1, none⟩)) rfl (by kernel_rfl) (by kernel_rfl) (by kernel_rfl) (fun _ _ _ h => h) (Or.inl ⟨by rfl, fun w => by go_simp⟩) ?_
                    simp only [Act.put, zA, zB, zC]
                    refine wpAny_ready (rs := [6]) (by kernel_rfl) (by simp) ?_
                    refine ready_cons rfl (fun K hK => ?_) AllReady.nil
                    have ck := (HM.out.cells.kept HO.out fun e => e).is 1 _ rfl
                    go_simp
                    refine hK _ _ ?_
                    clear hK K ck
                    refine any_take 7 (.bool false) rfl (by kernel_rfl) (by kernel_rfl) (by kernel_rfl) (fun _ _ _ h => h) (Or.inl ⟨by rfl, fun w => by go_simp⟩) ?_
                    simp only [Act.put, zA, zB, zC]
                    refine any_take 8 (.bool false) rfl (by kernel_rfl) (by kernel_rfl) (by kernel_rfl) (fun _ _ _ h => h) (Or.inl ⟨by rfl, fun w => by go_simp⟩) ?_
                    simp only [Act.put, zA, zB, zC]
                    refine any_take 9 undef rfl (by kernel_rfl) (by kernel_rfl) (by kernel_rfl) (fun _ _ _ h => h) (Or.inr ⟨by rfl, rfl⟩) ?_
                    simp only [Act.put, zA, zB, zC]
                    refine any_take 10 undef rfl (by kernel_rfl) (by kernel_rfl) (by kernel_rfl) (fun _ _ _ h => h) (Or.inr ⟨by rfl, rfl⟩) ?_
                    simp only [Act.put, zA, zB, zC]
                    refine any_take 11 (.bool false) rfl (by kernel_rfl) (by kernel_rfl) (by kernel_rfl) (fun _ _ _ h => h) (Or.inl ⟨by rfl, fun w => by go_simp⟩) ?_
                    simp only [Act.put, zA, zB, zC]
                    refine any_take 12 (.bool false) rfl (by kernel_rfl) (by kernel_rfl) (by kernel_rfl) (fun _ _ _ h => h) (Or.inl ⟨by rfl, fun w => by go_simp⟩) ?_
                    simp only [Act.put, zA, zB, zC]
                    refine wpAny_done (by kernel_rfl) ?_ _
                    go_wp2_with fail
                    go_meet
                    exact ⟨congrArg Value.bool RES.out, HO.out⟩
                  · skip
                    refine step_plain rfl ?_
                    refine wp_load_mid 133 _ rfl S 0 rfl (bv s) _ ((HVC.out.only HO.out fun _ _ e => e).range) Tryz.underlying133 rfl (size124 s HS.out) ?_
                    refine hK _ _ ?_
                    clear hK K
                    simp only [Act.put, zA, zB, zC]
                    refine wpAny_ready (rs := [1]) (by kernel_rfl) (by simp) ?_
                    refine ready_cons rfl (fun K hK => ?_) AllReady.nil
                    go_simp
                    refine (HSEC.out _ HO.out).mono ?_
                    rintro r wk1 ⟨rfl, o5⟩
                    go_simp
                    refine hK _ _ ?_
                    clear hK K
                    replace HO := Lib.hid (HO.out.trans o5)
                    clear o5
                    refine any_take 3 (.bool false) rfl (by kernel_rfl) (by kernel_rfl) (by kernel_rfl) (fun _ _ _ h => h) (Or.inl ⟨by rfl, fun w => (yields_neq124 w _ s HLL.out HS.out rfl rfl rfl).trans (by rw [NB.out]; rfl)⟩) ?_
                    simp only [Act.put, zA, zB, zC]
                    refine any_take 4 (.bool false) rfl (by kernel_rfl) (by kernel_rfl) (by kernel_rfl) (fun _ _ _ h => h) (Or.inl ⟨by rfl, fun w => by go_simp⟩) ?_
                    simp only [Act.put, zA, zB, zC]
                    refine any_take 5 (.pointer (some ⟨g, 1, none⟩)) rfl (by kernel_rfl) (by kernel_rfl) (by kernel_rfl) (fun _ _ _ h => h) (Or.inl ⟨by rfl, fun w => by go_simp⟩) ?_
                    simp only [Act.put, zA, zB, zC]
                    refine wpAny_ready (rs := [6]) (by kernel_rfl) (by simp) ?_
                    refine ready_cons rfl (fun K hK => ?_) AllReady.nil
                    have ck := (HM.out.cells.kept HO.out fun e => e).is 1 _ rfl
                    go_simp
                    refine hK _ _ ?_
                    clear hK K ck
                    refine any_take 7 (.bool false) rfl (by kernel_rfl) (by kernel_rfl) (by kernel_rfl) (fun _ _ _ h => h) (Or.inl ⟨by rfl, fun w => by go_simp⟩) ?_
                    simp only [Act.put, zA, zB, zC]
                    refine any_take 8 (.bool false) rfl (by kernel_rfl) (by kernel_rfl) (by kernel_rfl) (fun _ _ _ h => h) (Or.inl ⟨by rfl, fun w => by go_simp⟩) ?_
                    simp only [Act.put, zA, zB, zC]
                    refine any_take 9 undef rfl (by kernel_rfl) (by kernel_rfl) (by kernel_rfl) (fun _ _ _ h => h) (Or.inr ⟨by rfl, rfl⟩) ?_
                    simp only [Act.put, zA, zB, zC]
                    refine any_take 10 undef rfl (by kernel_rfl) (by kernel_rfl) (by kernel_rfl) (fun _ _ _ h => h) (Or.inr ⟨by rfl, rfl⟩) ?_
                    simp only [Act.put, zA, zB, zC]
                    refine any_take 11 (.bool false) rfl (by kernel_rfl) (by kernel_rfl) (by kernel_rfl) (fun _ _ _ h => h) (Or.inl ⟨by rfl, fun w => by go_simp⟩) ?_
                    simp only [Act.put, zA, zB, zC]
                    refine any_take 12 (.bool false) rfl (by kernel_rfl) (by kernel_rfl) (by kernel_rfl) (fun _ _ _ h => h) (Or.inl ⟨by rfl, fun w => by go_simp⟩) ?_
                    simp only [Act.put, zA, zB, zC]
                    refine wpAny_done (by kernel_rfl) ?_ _
                    go_wp2_with fail
                    go_meet
                    exact ⟨congrArg Value.bool RES.out, HO.out⟩
                · skip
                  refine step_plain rfl ?_
                  refine wp_load_mid 133 _ rfl S 0 rfl (bv s) _ ((HVC.out.only HO.out fun _ _ e => e).range) Tryz.underlying133 rfl (size124 s HS.out) ?_
                  refine hK _ _ ?_
                  clear hK K
                  simp only [Act.put, zA, zB, zC]
                  refine wpAny_ready (rs := [0]) (by kernel_rfl) (by simp) ?_
                  refine ready_cons rfl (fun K hK => ?_) AllReady.nil
                  have hr0 := HM.out.cells.kept HO.out fun e => e
                  have k0 := hr0.is 0 _ rfl
                  have k1 := hr0.is 1 _ rfl
                  have k2 := hr0.is 2 _ rfl
                  clear hr0
                  go_simp
                  refine hK _ _ ?_
                  clear hK K k0 k1 k2
                  refine wpAny_ready (rs := [1]) (by kernel_rfl) (by simp) ?_
                  refine ready_cons rfl (fun K hK => ?_) AllReady.nil
                  go_simp
                  refine (HSEC.out _ HO.out).mono ?_
                  rintro r wk1 ⟨rfl, o5⟩
                  go_simp
                  refine hK _ _ ?_
                  clear hK K
                  replace HO := Lib.hid (HO.out.trans o5)
                  clear o5
                  refine any_take 3 (.bool false) rfl (by kernel_rfl) (by kernel_rfl) (by kernel_rfl) (fun _ _ _ h => h) (Or.inl ⟨by rfl, fun w => (yields_neq124 w _ s HLL.out HS.out rfl rfl rfl).trans (by rw [NB.out]; rfl)⟩) ?_
                  simp only [Act.put, zA, zB, zC]
                  refine any_take 4 (.bool false) rfl (by kernel_rfl) (by kernel_rfl) (by kernel_rfl) (fun _ _ _ h => h) (Or.inl ⟨by rfl, fun w => by go_simp⟩) ?_
                  simp only [Act.put, zA, zB, zC]
                  refine any_take 5 (.pointer (some ⟨g, 1, none⟩)) rfl (by kernel_rfl) (by kernel_rfl) (by kernel_rfl) (fun _ _ _ h => h) (Or.inl ⟨by rfl, fun w => by go_simp⟩) ?_
                  simp only [Act.put, zA, zB, zC]
                  refine wpAny_ready (rs := [6]) (by kernel_rfl) (by simp) ?_
                  refine ready_cons rfl (fun K hK => ?_) AllReady.nil
                  have ck := (HM.out.cells.kept HO.out fun e => e).is 1 _ rfl
                  go_simp
                  refine hK _ _ ?_
                  clear hK K ck
                  refine any_take 7 (.bool false) rfl (by kernel_rfl) (by kernel_rfl) (by kernel_rfl) (fun _ _ _ h => h) (Or.inl ⟨by rfl, fun w => by go_simp⟩) ?_
                  simp only [Act.put, zA, zB, zC]
                  refine any_take 8 (.bool false) rfl (by kernel_rfl) (by kernel_rfl) (by kernel_rfl) (fun _ _ _ h => h) (Or.inl ⟨by rfl, fun w => by go_simp⟩) ?_
                  simp only [Act.put, zA, zB, zC]
                  refine any_take 9 undef rfl (by kernel_rfl) (by kernel_rfl) (by kernel_rfl) (fun _ _ _ h => h) (Or.inr ⟨by rfl, rfl⟩) ?_
                  simp only [Act.put, zA, zB, zC]
                  refine any_take 10 undef rfl (by kernel_rfl) (by kernel_rfl) (by kernel_rfl) (fun _ _ _ h => h) (Or.inr ⟨by rfl, rfl⟩) ?_
                  simp only [Act.put, zA, zB, zC]
                  refine any_take 11 (.bool false) rfl (by kernel_rfl) (by kernel_rfl) (by kernel_rfl) (fun _ _ _ h => h) (Or.inl ⟨by rfl, fun w => by go_simp⟩) ?_
                  simp only [Act.put, zA, zB, zC]
                  refine any_take 12 (.bool false) rfl (by kernel_rfl) (by kernel_rfl) (by kernel_rfl) (fun _ _ _ h => h) (Or.inl ⟨by rfl, fun w => by go_simp⟩) ?_
                  simp only [Act.put, zA, zB, zC]
                  refine wpAny_done (by kernel_rfl) ?_ _
                  go_wp2_with fail
                  go_meet
                  exact ⟨congrArg Value.bool RES.out, HO.out⟩
            · have NB := Lib.hid (show decide (lay = s) = false by simpa using h1)
              have RES : Hid (true = decide (lay ≠ s ∨ (bl = false ∧ sz ≠ 501))) := by
                show _ = _
                simp [h1]
              clear h1
              refine wp_region_any (by kernel_rfl) ?_
              change wpAny _ _ _ _ _ _ _ (World.drew _)
              have HO : Hid (Only None' wc wc.drew) := (Only.refl _ _).drew
              obtain ⟨wk0, hwk0⟩ : ∃ z, z = wc.drew := ⟨_, rfl⟩
              rw [← hwk0] at HO ⊢
              clear hwk0
              refine wpAny_ready (rs := [0, 2]) (by kernel_rfl) (by simp) ?_
              refine ready_cons rfl (fun K hK => ?_) (ready_cons rfl (fun K hK => ?_) AllReady.nil)
              · skip
                have hr0 := HM.out.cells.kept HO.out fun e => e
                have k0 := hr0.is 0 _ rfl
                have k1 := hr0.is 1 _ rfl
                have k2 := hr0.is 2 _ rfl
                clear hr0
                go_simp
                refine hK _ _ ?_
                clear hK K k0 k1 k2
                refine wpAny_ready (rs := [1, 2]) (by kernel_rfl) (by simp) ?_
                refine ready_cons rfl (fun K hK => ?_) (ready_cons rfl (fun K hK => ?_) AllReady.nil)
                · skip
                  go_simp
                  refine (HSEC.out _ HO.out).mono ?_
                  rintro r wk1 ⟨rfl, o5⟩
                  go_simp
                  refine hK _ _ ?_
                  clear hK K
                  replace HO := Lib.hid (HO.out.trans o5)
                  clear o5
                  refine wpAny_ready (rs := [2]) (by kernel_rfl) (by simp) ?_
                  refine ready_cons rfl (fun K hK => ?_) AllReady.nil
                  refine step_plain rfl ?_
                  refine wp_load_mid 133 _ rfl S 0 rfl (bv s) _ ((HVC.out.only HO.out fun _ _ e => e).range) Tryz.underlying133 rfl (size124 s HS.out) ?_
                  refine hK _ _ ?_
                  clear hK K
                  simp only [Act.put, zA, zB, zC]
                  refine any_take 3 (.bool true) rfl (by kernel_rfl) (by kernel_rfl) (by kernel_rfl) (fun _ _ _ h => h) (Or.inl ⟨by rfl, fun w => (yields_neq124 w _ s HLL.out HS.out rfl rfl rfl).trans (by rw [NB.out]; rfl)⟩) ?_
                  simp only [Act.put, zA, zB, zC]
                  refine any_take 4 (.bool true) rfl (by kernel_rfl) (by kernel_rfl) (by kernel_rfl) (fun _ _ _ h => h) (Or.inl ⟨by rfl, fun w => by go_simp⟩) ?_
                  simp only [Act.put, zA, zB, zC]
                  refine any_take 5 undef rfl (by kernel_rfl) (by kernel_rfl) (by kernel_rfl) (fun _ _ _ h => h) (Or.inr ⟨by rfl, rfl⟩) ?_
                  simp only [Act.put, zA, zB, zC]
                  refine any_take 6 undef rfl (by kernel_rfl) (by kernel_rfl) (by kernel_rfl) (fun _ _ _ h => h) (Or.inr ⟨by rfl, rfl⟩) ?_
                  simp only [Act.put, zA, zB, zC]
                  refine any_take 7 undef rfl (by kernel_rfl) (by kernel_rfl) (by kernel_rfl) (fun _ _ _ h => h) (Or.inr ⟨by rfl, rfl⟩) ?_
                  simp only [Act.put, zA, zB, zC]
                  refine any_take 8 undef rfl (by kernel_rfl) (by kernel_rfl) (by kernel_rfl) (fun _ _ _ h => h) (Or.inr ⟨by rfl, rfl⟩) ?_
                  simp only [Act.put, zA, zB, zC]
                  refine any_take 9 undef rfl (by kernel_rfl) (by kernel_rfl) (by kernel_rfl) (fun _ _ _ h => h) (Or.inr ⟨by rfl, rfl⟩) ?_
                  simp only [Act.put, zA, zB, zC]
                  refine any_take 10 undef rfl (by kernel_rfl) (by kernel_rfl) (by kernel_rfl) (fun _ _ _ h => h) (Or.inr ⟨by rfl, rfl⟩) ?_
                  simp only [Act.put, zA, zB, zC]
                  refine any_take 11 undef rfl (by kernel_rfl) (by kernel_rfl) (by kernel_rfl) (fun _ _ _ h => h) (Or.inr ⟨by rfl, rfl⟩) ?_
                  simp only [Act.put, zA, zB, zC]
                  refine any_take 12 (.bool true) rfl (by kernel_rfl) (by kernel_rfl) (by kernel_rfl) (fun _ _ _ h => h) (Or.inl ⟨by rfl, fun w => by go_simp⟩) ?_
                  simp only [Act.put, zA, zB, zC]
                  refine wpAny_done (by kernel_rfl) ?_ _
                  go_wp2_with fail
                  go_meet
                  exact ⟨congrArg Value.bool RES.out, HO.out⟩
                · skip
                  refine step_plain rfl ?_
                  refine wp_load_mid 133 _ rfl S 0 rfl (bv s) _ ((HVC.out.only HO.out fun _ _ e => e).range) Tryz.underlying133 rfl (size124 s HS.out) ?_
                  refine hK _ _ ?_
                  clear hK K
                  simp only [Act.put, zA, zB, zC]
                  refine wpAny_ready (rs := [1]) (by kernel_rfl) (by simp) ?_
                  refine ready_cons rfl (fun K hK => ?_) AllReady.nil
                  go_simp
                  refine (HSEC.out _ HO.out).mono ?_
                  rintro r wk1 ⟨rfl, o5⟩
                  go_simp
                  refine hK _ _ ?_
                  clear hK K
                  replace HO := Lib.hid (HO.out.trans o5)
                  clear o5
                  refine any_take 3 (.bool true) rfl (by kernel_rfl) (by kernel_rfl) (by kernel_rfl) (fun _ _ _ h => h) (Or.inl ⟨by rfl, fun w => (yields_neq124 w _ s HLL.out HS.out rfl rfl rfl).trans (by rw [NB.out]; rfl)⟩) ?_
                  simp only [Act.put, zA, zB, zC]
                  refine any_take 4 (.bool true) rfl (by kernel_rfl) (by kernel_rfl) (by kernel_rfl) (fun _ _ _ h => h) (Or.inl ⟨by rfl, fun w => by go_simp⟩) ?_
                  simp only [Act.put, zA, zB, zC]
                  refine any_take 5 undef rfl (by kernel_rfl) (by kernel_rfl) (by kernel_rfl) (fun _ _ _ h => h) (Or.inr ⟨by rfl, rfl⟩) ?_
                  simp only [Act.put, zA, zB, zC]
                  refine any_take 6 undef rfl (by kernel_rfl) (by kernel_rfl) (by kernel_rfl) (fun _ _ _ h => h) (Or.inr ⟨by rfl, rfl⟩) ?_
                  simp only [Act.put, zA, zB, zC]
                  refine any_take 7 undef rfl (by kernel_rfl) (by kernel_rfl) (by kernel_rfl) (fun _ _ _ h => h) (Or.inr ⟨by rfl, rfl⟩) ?_
                  simp only [Act.put, zA, zB, zC]
                  refine any_take 8 undef rfl (by kernel_rfl) (by kernel_rfl) (by kernel_rfl) (fun _ _ _ h => h) (Or.inr ⟨by rfl, rfl⟩) ?_
                  simp only [Act.put, zA, zB, zC]
                  refine any_take 9 undef rfl (by kernel_rfl) (by kernel_rfl) (by kernel_rfl) (fun _ _ _ h => h) (Or.inr ⟨by rfl, rfl⟩) ?_
                  simp only [Act.put, zA, zB, zC]
                  refine any_take 10 undef rfl (by kernel_rfl) (by kernel_rfl) (by kernel_rfl) (fun _ _ _ h => h) (Or.inr ⟨by rfl, rfl⟩) ?_
                  simp only [Act.put, zA, zB, zC]
                  refine any_take 11 undef rfl (by kernel_rfl) (by kernel_rfl) (by kernel_rfl) (fun _ _ _ h => h) (Or.inr ⟨by rfl, rfl⟩) ?_
                  simp only [Act.put, zA, zB, zC]
                  refine any_take 12 (.bool true) rfl (by kernel_rfl) (by kernel_rfl) (by kernel_rfl) (fun _ _ _ h => h) (Or.inl ⟨by rfl, fun w => by go_simp⟩) ?_
                  simp only [Act.put, zA, zB, zC]
                  refine wpAny_done (by kernel_rfl) ?_ _
                  go_wp2_with fail
                  go_meet
                  exact ⟨congrArg Value.bool RES.out, HO.out⟩
              · skip
                refine step_plain rfl ?_
                refine wp_load_mid 133 _ rfl S 0 rfl (bv s) _ ((HVC.out.only HO.out fun _ _ e => e).range) Tryz.underlying133 rfl (size124 s HS.out) ?_
                refine hK _ _ ?_
                clear hK K
                simp only [Act.put, zA, zB, zC]
                refine wpAny_ready (rs := [0]) (by kernel_rfl) (by simp) ?_
                refine ready_cons rfl (fun K hK => ?_) AllReady.nil
                have hr0 := HM.out.cells.kept HO.out fun e => e
                have k0 := hr0.is 0 _ rfl
                have k1 := hr0.is 1 _ rfl
                have k2 := hr0.is 2 _ rfl
                clear hr0
                go_simp
                refine hK _ _ ?_
                clear hK K k0 k1 k2
                refine wpAny_ready (rs := [1]) (by kernel_rfl) (by simp) ?_
                refine ready_cons rfl (fun K hK => ?_) AllReady.nil
                go_simp
                refine (HSEC.out _ HO.out).mono ?_
                rintro r wk1 ⟨rfl, o5⟩
                go_simp
                refine hK _ _ ?_
                clear hK K
                replace HO := Lib.hid (HO.out.trans o5)
                clear o5
                refine any_take 3 (.bool true) rfl (by kernel_rfl) (by kernel_rfl) (by kernel_rfl) (fun _ _ _ h => h) (Or.inl ⟨by rfl, fun w => (yields_neq124 w _ s HLL.out HS.out rfl rfl rfl).trans (by rw [NB.out]; rfl)⟩) ?_
                simp only [Act.put, zA, zB, zC]
                refine any_take 4 (.bool true) rfl (by kernel_rfl) (by kernel_rfl) (by kernel_rfl) (fun _ _ _ h => h) (Or.inl ⟨by rfl, fun w => by go_simp⟩) ?_
                simp only [Act.put, zA, zB, zC]
                refine any_take 5 undef rfl (by kernel_rfl) (by kernel_rfl) (by kernel_rfl) (fun _ _ _ h => h) (Or.inr ⟨by rfl, rfl⟩) ?_
                simp only [Act.put, zA, zB, zC]
                refine any_take 6 undef rfl (by kernel_rfl) (by kernel_rfl) (by kernel_rfl) (fun _ _ _ h => h) (Or.inr ⟨by rfl, rfl⟩) ?_
                simp only [Act.put, zA, zB, zC]
                refine any_take 7 undef rfl (by kernel_rfl) (by kernel_rfl) (by kernel_rfl) (fun _ _ _ h => h) (Or.inr ⟨by rfl, rfl⟩) ?_
                simp only [Act.put, zA, zB, zC]
                refine any_take 8 undef rfl (by kernel_rfl) (by kernel_rfl) (by kernel_rfl) (fun _ _ _ h => h) (Or.inr ⟨by rfl, rfl⟩) ?_
                simp only [Act.put, zA, zB, zC]
                refine any_take 9 undef rfl (by kernel_rfl) (by kernel_rfl) (by kernel_rfl) (fun _ _ _ h => h) (Or.inr ⟨by rfl, rfl⟩) ?_
                simp only [Act.put, zA, zB, zC]
                refine any_take 10 undef rfl (by kernel_rfl) (by kernel_rfl) (by kernel_rfl) (fun _ _ _ h => h) (Or.inr ⟨by rfl, rfl⟩) ?_
                simp only [Act.put, zA, zB, zC]
                refine any_take 11 undef rfl (by kernel_rfl) (by kernel_rfl) (by kernel_rfl) (fun _ _ _ h => h) (Or.inr ⟨by rfl, rfl⟩) ?_
                simp only [Act.put, zA, zB, zC]
                refine any_take 12 (.bool true) rfl (by kernel_rfl) (by kernel_rfl) (by kernel_rfl) (fun _ _ _ h => h) (Or.inl ⟨by rfl, fun w => by go_simp⟩) ?_
                simp only [Act.put, zA, zB, zC]
                refine wpAny_done (by kernel_rfl) ?_ _
                go_wp2_with fail
                go_meet
                exact ⟨congrArg Value.bool RES.out, HO.out⟩
          case rest =>
            obtain ⟨rfl, o6⟩ := hcut
            have HO6 := Lib.hid o6
            have HT6 := Lib.hid (HT.out.kept o6 fun e => e)
            have hc6 := HM.out.cells.kept o6 fun e => e
            have k0 := hc6.is 0 _ rfl
            have k1 := hc6.is 1 _ rfl
            have k2 := hc6.is 2 _ rfl
            have y0 := HT6.out.is 0 _ rfl
            have y1 := HT6.out.is 1 _ rfl
            have y2 := HT6.out.is 2 _ rfl
            have yt := HT6.out.thaw
            clear o6 hc6
            by_cases hb : lay ≠ s ∨ (bl = false ∧ sz ≠ 501)
            · have HB := Lib.hid hb
              have hd : decide (lay ≠ s ∨ (bl = false ∧ sz ≠ 501)) = true := decide_eq_true hb
              rw [hd]
              clear hd hb
              go_wp2_with fail
              refine bodyPost_ret (v := .tuple #[.agg #[.int .i64 0, .bool false, .slice none 0 0], .bool false]) ?_ rfl ⟨?_, ?_⟩
              · rw [results_cell_tmp rfl]; go_simp
              · exact (HOW.out.trans (HM.out.only.trans HO6.out)).trans2 ((((Only.refl (fun k => k = T2) wc).setCell (p := ⟨T2, 0, none⟩) rfl _).setCell (p := ⟨T2, 1, none⟩) rfl _).setCell (p := ⟨T2, 2, none⟩) rfl _) fun k hk e => by have := HO.out.size; have := HTW.out; omega
              · have := HPO.out
                rw [HP.out, if_pos HB.out] at this
                subst this
                rfl
            · have HB := Lib.hid hb
              have hd : decide (lay ≠ s ∨ (bl = false ∧ sz ≠ 501)) = false := decide_eq_false hb
              rw [hd]
              clear hd hb
              go_wp2_with fail
              have hw : ∀ k, W.heap.size ≤ k → w.heap.size ≤ k := fun k hk => Nat.le_trans HOW.out.size hk
              refine bodyPost_ret (v := .tuple #[.agg #[.int .i64 (n : Int), .bool bl, .slice va vk vc], .bool true]) ?_ rfl ⟨?_, ?_⟩
              · rw [results_cell_tmp rfl]; go_simp
              · exact (HOW.out.trans (HM.out.only.trans HO6.out)).trans2 ((((Only.refl (fun k => k = T2) wc).setCell (p := ⟨T2, 0, none⟩) rfl _).setCell (p := ⟨T2, 1, none⟩) rfl _).setCell (p := ⟨T2, 2, none⟩) rfl _) fun k hk e => by have := HO.out.size; have := HTW.out; omega
              · have := HPO.out
                rw [HP.out, if_neg HB.out] at this
                subst this
                refine ⟨_, rfl, ?_, fun k hk => hw k (HM.out.fresh k hk).1⟩
                rw [show (Pc.data ⟨n, bl, data⟩).length = sz from HDL.out]
                exact (HM.out.vec.only HO6.out fun _ _ e => e).only ((((Only.refl (fun k => k = T2) wc).setCell (p := ⟨T2, 0, none⟩) rfl _).setCell (p := ⟨T2, 1, none⟩) rfl _).setCell (p := ⟨T2, 2, none⟩) rfl _) fun k hk e => by have := (HM.out.fresh k hk).1; have := HWS.out.1; omega
end Go.Proofs.YteoeaojebklfjaaGreatDoor
