/- LeaseKept: the walk. -/
import Derived.Test.YtfjfpnlcmjpofaaKA
import Derived.Test.YtfjfpnlcmjpofaaN1
import Derived.Test.YtfjfpnlcmjpofaaU3
import Derived.Deep.CutBlock
namespace Go.Proofs.Ytfjfpnlcmjpofaa
open Go.RowKit Go.Maps Go.Sort Go.Shelf
set_option linter.unusedVariables false

theorem mod200 (x : Int) : ∃ N : Nat, wrap64 ((IntKind.u64.wrap x).tmod 200) = (N : Int) ∧ N < 200 := modk x 200 (by decide) (by decide)
theorem modm (x : Int) (m : Nat) (h1 : 1 ≤ m) (h2 : m ≤ 2000000) : ∃ N : Nat, wrap64 ((IntKind.u64.wrap x).tmod (m : Int)) = (N : Int) ∧ N < m := by
  have h0 := u64_nonneg x
  have e : (IntKind.u64.wrap x).tmod (m : Int) = (IntKind.u64.wrap x) % (m : Int) := Int.tmod_eq_emod_of_nonneg h0
  have a1 := Int.emod_nonneg (IntKind.u64.wrap x) (show (m : Int) ≠ 0 by omega)
  have a2 := Int.emod_lt_of_pos (IntKind.u64.wrap x) (show (0 : Int) < m by omega)
  refine ⟨((IntKind.u64.wrap x) % (m : Int)).toNat, ?_, by omega⟩
  rw [e, IntWalk.wrap64_in _ (by omega)]
  omega
theorem u64_len {m : Nat} (h : m ≤ 2000000) : IntKind.u64.wrap (m : Int) = (m : Int) := by
  simp only [IntKind.wrap, IntKind.bits, IntKind.signed]
  simp
  omega
def hitX (a b c : Int) (y : Ls) : Bool := decide (y.cache = a ∧ y.num = b ∧ y.fin = c)
theorem take_any {l : List Ls} {p : Ls → Bool} {k : Nat} {x : Ls} (hx : l[k]? = some x) : (l.take (k + 1)).any p = ((l.take k).any p || p x) := by
  rw [List.take_add_one, hx, List.any_append]
  simp
/-- where the new lease lies -/
theorem gave_ls (c : Tb) (key : ByteArray) (cl now : Int) : (c.gave key cl now).ls = c.ls.filter (fun y => !at_ key cl y) ++ [c.new key cl now] := rfl
theorem same_str (a b : ByteArray) : (a.toList == b.toList) = decide (a = b) := by
  rw [Bool.eq_iff_iff, beq_iff_eq, decide_eq_true_eq]
  constructor
  · intro h
    rw [ByteArray.toList_eq, ByteArray.toList_eq] at h
    have := Array.toList_inj.1 h
    cases a; cases b; simp_all
  · rintro rfl; rfl
set_option maxRecDepth 20000 in
theorem kept_long (x y : Int) (a : Option Addr) (n c : Nat) (z : Int) (w : World) (h : 150 < n) : Calls Try.prog 6 #[.int .i64 x, .int .i64 y, .slice a n c, .int .i64 z] w fun e w' => e = .returned (.bool true) ∧ Below w.heap.size w w' := by
  have h1 : (150 : Int) < (n : Int) := by omega
  have d1 : decide ((150 : Int) < (n : Int)) = true := by rw [decide_eq_true_eq]; exact h1
  clear h
  go_enter Try.func6, Try.ntmps6
  go_wp2_with fail
  refine (awake_any w).mono ?_
  rintro e w1 ⟨rfl, o⟩
  have O := Lib.hid o
  clear o
  go_wp2_with fail
  go_ret
  exact ⟨rfl, O.out.below (Nat.le_refl _) fun _ e => e.elim⟩
set_option maxRecDepth 20000 in
set_option maxHeartbeats 16000000 in
theorem kept_main (x y : Int) (a : Option Addr) (n c : Nat) (ss : List Stp) (z : Int) (w : World) (rd : Steps w a n ss) (h : n ≤ 150) : Calls Try.prog 6 #[.int .i64 x, .int .i64 y, .slice a n c, .int .i64 z] w fun e w' => e = .returned (.bool true) ∧ Below w.heap.size w w' := by
  have h1 : ¬ (150 : Int) < (n : Int) := by omega
  have d1 : decide ((150 : Int) < (n : Int)) = false := by rw [decide_eq_false_iff_not]; exact h1
  have RD := Lib.hid rd
  have H150 := Lib.hid h
  obtain ⟨L, hL, a1, a2⟩ := one2047 x
  obtain ⟨hd, hHD, hd1, hd2⟩ := one100 y
  obtain ⟨now0, hNW, nw1⟩ := mod200 z
  have HHD := Lib.hid (And.intro hd1 hd2)
  have HNB : Hid (newB (L : Int) (hd : Int) 0 = true) := Lib.hid (by
    unfold newB clockB
    simp only [Bool.and_eq_true, decide_eq_true_eq]
    omega)
  have HNW := Lib.hid nw1
  have hmm := @run_makeMap Try.prog
  clear hd1 hd2 rd h h1 a1 a2 nw1
  go_enter Try.func6, Try.ntmps6
  go_wp2_with fail
  refine (awake_any w).mono ?_
  rintro e w1 ⟨rfl, o⟩
  have O := Lib.hid o
  clear o
  go_wp2_with fail
  rw [hL, hHD]
  refine (new_any L (hd : Int) 0 HNB.out w1).mono ?_
  rintro e w2 ⟨B, M, N, rfl, hc, hB, hM, hN, o2⟩
  obtain ⟨S, hS⟩ : ∃ S, S = w2.heap.size := ⟨_, rfl⟩
  have L0 : Hid (KSt w (w2.alloc (.map #[] 0)) (.slice none 0 0) S 0 B M N 0 (hd : Int) ⟨L, hd, 0, 0, [], [], 0⟩) := Lib.hid (by
    have hs := O.out.size
    have hs2 := o2.size
    have l1 := hc.cells.lt
    have l2 := hc.lt
    refine ⟨(O.out.trans o2).alloc _, Vec.nil _ _, hc.new ((Only.refl _ _).alloc _), ⟨_, by rw [hS]; exact SMap.made w2, fun k hk => absurd hk (by decide)⟩, ⟨by omega, by omega, by omega, by omega⟩, ⟨by omega, by omega, by omega⟩, (fun q hq => by cases hq), Nat.le_refl _, rfl, Nat.le_refl _⟩)
  clear hc hB hM hN o2 O d1 hL hHD
  go_wp2_with fail
  rw [← hS, hNW]
  clear hS hNW
  go_loopw [11, 12, 13] (fun av sm i wr => ∃ (j m : Nat) (aa : Option Addr) (ac S nS M N : Nat) (c : Tb), j ≤ n ∧ av = .slice aa m ac ∧ sm = .map (some S) ∧ i = .int .i64 (j : Int) ∧ Hid (m = c.ls.length) ∧ Hid (KSt w wr (.slice aa m ac) S nS B M N j (hd : Int) c)) (fun _ _ i wr => n - (intOf i).toNat)
  case atStart => exact ⟨0, 0, none, 0, S, 0, M, N, _, by omega, rfl, rfl, rfl, Lib.hid rfl, L0⟩
  case round =>
    clear L0
    obtain ⟨j, m, aa, ac, S, nS, M, N, c, hj, rfl, rfl, rfl, HM, HI⟩ := hrel
    rename World => wx
    by_cases hlt : j < n
    · have hjs : j < ss.length := by have := RD.out.len; omega
      obtain ⟨bb, off, rfl, hb, hA⟩ := RD.out.at_ j hjs
      obtain ⟨s, hs⟩ : ∃ s, s = ss[j] := ⟨_, rfl⟩
      have HF : Hid s.Fine := Lib.hid (RD.out.fine s (by rw [hs]; exact List.getElem_mem hjs))
      rw [← hs] at hA
      clear hs
      obtain ⟨kd, key, cl, now, nn, raw⟩ := s
      have hA2 := hA.only hb HI.out.only fun e => e
      have k0 := hA2.k0
      have k1 := hA2.k1
      have k2 := hA2.k2
      have k3 := hA2.k3
      have k4 := hA2.k4
      have k5 := hA2.k5
      simp only at k0 k1 k2 k3 k4 k5
      have i0 : (0 : Int) ≤ (j : Int) := by omega
      have i1 : (j : Int) < (n : Int) := by omega
      have HJ := Lib.hid hlt
      obtain ⟨T, hT⟩ : ∃ T, T = wx.heap.size := ⟨_, rfl⟩
      obtain ⟨wb, hwb⟩ : ∃ wb, wb = wx.alloc (.cells #[.int .u8 (kd : Int), .string key, .int .i64 cl, .int .i64 now, .int .i64 nn, .bool raw] 32) := ⟨_, rfl⟩
      have HA : Hid (KSt w wb (.slice aa m ac) S nS B M N j (hd : Int) c) := Lib.hid (HI.out.new_ (by rw [hwb]; exact (Only.refl None' wx).alloc _))
      have CT : Hid (CellsR wb T [.int .u8 (kd : Int), .string key, .int .i64 cl, .int .i64 now, .int .i64 nn, .bool raw]) := Lib.hid (by rw [hwb, hT]; exact cells_new wx [.int .u8 (kd : Int), .string key, .int .i64 cl, .int .i64 now, .int .i64 nn, .bool raw] 32)
      have HTn : Hid (T ≠ B ∧ T ≠ M ∧ T ≠ N ∧ T ≠ S) := Lib.hid (by have h1 := HI.out.lt; omega)
      have HNS := Lib.hid (show nS ≤ 150 by have h1 := HI.out.few; have h2 := H150.out; omega)
      have ewb := hwb.symm
      have eT := hT.symm
      clear hb hA hA2 hjs hlt hj hwb hT
      have c0 := CT.out.is 0 _ rfl
      go_upto_block 2 with fail
      clear k0 k1 k2 k3 k4 k5 i0 i1 ewb eT c0 HI
      go_cut [11, 12, 15, 16, 17, 18, 19, 20, 21, 22] from 71 to 216 (fun z11 z12 z15 z16 z17 z18 z19 z20 z21 z22 wz => ∃ (m' : Nat) (aa' : Option Addr) (ac' S' nS' M' N' : Nat) (c' : Tb), z11 = .slice aa' m' ac' ∧ z12 = .map (some S') ∧ Hid (m' = c'.ls.length) ∧ Hid (KSt w wz (.slice aa' m' ac') S' nS' B M' N' (j + 1) (hd : Int) c'))
      case first =>
        have c0 := CT.out.is 0 _ rfl
        have c1 := CT.out.is 1 _ rfl
        have c2 := CT.out.is 2 _ rfl
        have c3 := CT.out.is 3 _ rfl
        have c4 := CT.out.is 4 _ rfl
        by_cases hk0 : kd = 0
        · as_aux_lemma =>
          have z0 : ((kd : Int) == 0) = true := by simp; omega
          have z0' : (kd == 0) = true := by simpa using hk0
          clear hk0
          have HLEN := Lib.hid HA.out.long
          by_cases hcode : c.giveCode key.data.toList now = 0
          · obtain ⟨Nn, hNn⟩ : ∃ Nn : Nat, Nn = c.top + 1 := ⟨_, rfl⟩
            have HNN := Lib.hid hNn
            have HCB := Lib.hid (c.code0 hcode)
            have HWR : Hid (wrap64 (now + (hd : Int)) = now + (hd : Int)) := Lib.hid (by
              obtain ⟨b1, _, _, b2⟩ := HCB.out
              unfold clockB at b1 b2
              simp only [Bool.and_eq_true, decide_eq_true_eq] at b1 b2
              have := HHD.out
              exact IntWalk.wrap64_in _ (by omega))
            have HG : Hid (Calls Try.prog 10 #[.pointer (some ⟨B, 0, none⟩), .string key, .int .i64 cl, .int .i64 now] wb fun e w' => e = .returned (.tuple #[.int .i64 (Nn : Int), .int .i64 0]) ∧ TabAt w' B M N (c.gave key cl now) ∧ Only (fun k => k = B ∨ k = M) wb w') := Lib.hid (by rw [hNn]; exact give_go HA.out.c_ key cl now HF.out.pl hcode)
            clear hcode hNn
            go_wp2_with fail
            refine HG.out.mono ?_
            rintro e w5 ⟨rfl, h5, o5⟩
            have H5 := Lib.hid (And.intro h5 o5)
            have CT5 := Lib.hid (CT.out.kept o5 (by have := HTn.out; omega))
            have y1 := CT5.out.is 1 _ rfl
            obtain ⟨f, hs1, hs2⟩ := HA.out.s_
            have hlk := (hs1.only o5 (by have := HA.out.apart; omega)).look HF.out.pl.1
            obtain ⟨fv, hfv⟩ : ∃ fv, fv = f key.data.toList := ⟨_, rfl⟩
            rw [← hfv] at hlk
            have d0 : decide ((0 : Int) < fv) = false := by
              rw [decide_eq_false_iff_not, hfv]
              exact fun h => HCB.out.2.1 (hs2 _ h)
            have hv5 := HA.out.row
            rw [← HM.out] at hv5
            have R5 : Hid (Vec w5 4 (.slice aa m ac) m (c.ls.flatMap Ls.row)) := Lib.hid (hv5.only o5 fun q hq e => by have := HA.out.av_ q hq; omega)
            clear h5 o5 hs1 hs2 hfv hv5 c0 c1 c2 c3 c4 HG
            go_wp2_with fail
            clear y1 hlk d0
            go_loopw [17, 18] (fun lv i wy => ∃ (k q : Nat) (la : Option Addr) (lc : Nat), k ≤ m ∧ lv = .slice la q lc ∧ i = .int .i64 (k : Int) ∧ Hid (q = ((c.ls.take k).filter (fun y => !at_ key cl y)).length) ∧ Hid (GL w5 wy (.slice la q lc) ((c.ls.take k).filter (fun y => !at_ key cl y)))) (fun _ i wy => m - (intOf i).toNat)
            case atStart => exact ⟨0, 0, none, 0, by omega, rfl, rfl, Lib.hid rfl, Lib.hid (GL.start _)⟩
            case round =>
              obtain ⟨k, q, la, lc, hkm, rfl, rfl, HQ, HL⟩ := hrel
              rename World => wy
              have HKQ : Hid (q ≤ c.ls.length) := Lib.hid (by rw [HQ.out]; exact Nat.le_trans (List.length_filter_le _ _) (by rw [List.length_take]; omega))
              by_cases hlt : k < m
              · have hkl : k < c.ls.length := by have := HM.out; omega
                obtain ⟨ga, offa, rfl, hga, hcell, _⟩ := (R5.out.only HL.out.only fun _ _ e => e).form' (by omega)
                obtain ⟨x, hx⟩ : ∃ x, x = c.ls[k] := ⟨_, rfl⟩
                have hcell2 : ∀ i u, (Ls.row x)[i]? = some u → wy.cell? ⟨ga, offa + k * 4 + i, none⟩ = some u := fun i u h => by
                  rw [hx] at h
                  have := hcell (k * 4 + i) u (flat_at Ls.row 4 c.ls k (fun y _ => rfl) hkl i u h)
                  rwa [← Nat.add_assoc] at this
                have HX : Hid (c.ls[k]? = some x) := Lib.hid (by rw [hx]; exact List.getElem?_eq_getElem hkl)
                clear hx hcell
                obtain ⟨x0, x1, x2, x3⟩ := x
                have q0 := hcell2 0 _ rfl
                have q1 := hcell2 1 _ rfl
                have q2 := hcell2 2 _ rfl
                have q3 := hcell2 3 _ rfl
                rw [Nat.add_zero] at q0
                simp only at q0 q1 q2 q3
                have i2 : (0 : Int) ≤ (k : Int) := by omega
                have i3 : (k : Int) < (m : Int) := by omega
                have CTY := CT5.out.kept HL.out.only fun e => e
                have HLT := Lib.hid hlt
                have HGV := Lib.hid HL.out.row
                rw [← HQ.out] at HGV
                have y1 := CTY.is 1 _ rfl
                have y2 := CTY.is 2 _ rfl
                clear hkm hlt hkl hga hcell2 CTY
                by_cases e1 : x0 = key
                · by_cases e2 : x1 = cl
                  · have b1 : (x0.toList == key.toList) = true := by rw [same_str, decide_eq_true_eq]; exact e1
                    have b2 : (x1 == cl) = true := by simpa using e2
                    have HPX : Hid (¬ (fun y => !at_ key cl y) ⟨x0, x1, x2, x3⟩ = true) := Lib.hid (by simp [at_, e1, e2])
                    clear e1 e2
                    go_wp2_with fail
                    go_quiet (fail)
                    go_wp2_with fail
                    go_roundw
                    case rel =>
                      refine ⟨k + 1, q, la, lc, by have := HLT.out; omega, rfl, next_len HLT.out (by have := HM.out; have := HLEN.out; unfold maxLen; omega), Lib.hid (by rw [take_next HX.out, if_neg HPX.out, List.append_nil, HQ.out]), Lib.hid ?_⟩
                      rw [take_next HX.out, if_neg HPX.out, List.append_nil]
                      exact HL.out.drewN nq
                    case measure => exact meas_len HLT.out (by have := HM.out; have := HLEN.out; unfold maxLen; omega)
                  · have b1 : (x0.toList == key.toList) = true := by rw [same_str, decide_eq_true_eq]; exact e1
                    have b2 : (x1 == cl) = false := by simpa using e2
                    have HPX : Hid ((fun y => !at_ key cl y) ⟨x0, x1, x2, x3⟩ = true) := Lib.hid (by simp [at_, e1, e2])
                    clear e1 e2
                    go_wp2_with fail
                    go_quiet (fail)
                    go_wp2_with (first | (at_builtin; refine wpList_append_any rfl _ _ 52 rfl 55 Try.t55 Ls.zero.v 4 40 under52 info55 t55_zero t55_size t55_bytes rfl (by decide) (.slice la q lc) q (((c.ls.take k).filter (fun y => !at_ key cl y)).flatMap Ls.row) rfl ((HGV.out.drewN nq).alloc _) (.slice (some ⟨(wy.drewN nq).heap.size, 0, none⟩) 1 1) 1 [.string x0, .int .i64 x1, .int .i64 x2, .int .i64 x3] rfl (rd_new (wy.drewN nq) [.string x0, .int .i64 x1, .int .i64 x2, .int .i64 x3] 55 1 4 rfl (by decide)) (Ls.row_one ⟨x0, x1, x2, x3⟩) (by have h1 := HKQ.out; have h2 := HLEN.out; unfold maxLen; omega) (by have h1 := HKQ.out; have h2 := HLEN.out; omega) ?_; intro v2 w6 hv2 hg2 hf2; obtain ⟨oa2, oc2, rfl, _, _⟩ := hv2.shape; have HY := Lib.hid (And.intro hv2 (And.intro hg2 hf2)); clear hv2 hg2 hf2))
                    go_roundw
                    case rel =>
                      refine ⟨k + 1, q + 1, oa2, oc2, by have := HLT.out; omega, rfl, next_len HLT.out (by have := HM.out; have := HLEN.out; unfold maxLen; omega), Lib.hid (by rw [take_next HX.out, if_pos HPX.out, List.length_append, HQ.out]; rfl), Lib.hid ?_⟩
                      rw [take_next HX.out, if_pos HPX.out]
                      exact GL.push (x := ⟨x0, x1, x2, x3⟩) (HL.out.drewN nq) (by rw [← HQ.out]; exact HY.out.1) HY.out.2.1 HY.out.2.2
                    case measure => exact meas_len HLT.out (by have := HM.out; have := HLEN.out; unfold maxLen; omega)
                · have b1 : (x0.toList == key.toList) = false := by rw [same_str, decide_eq_false_iff_not]; exact e1
                  have HPX : Hid ((fun y => !at_ key cl y) ⟨x0, x1, x2, x3⟩ = true) := Lib.hid (by simp [at_, e1])
                  clear e1
                  go_wp2_with fail
                  go_quiet (fail)
                  go_wp2_with (first | (at_builtin; refine wpList_append_any rfl _ _ 52 rfl 55 Try.t55 Ls.zero.v 4 40 under52 info55 t55_zero t55_size t55_bytes rfl (by decide) (.slice la q lc) q (((c.ls.take k).filter (fun y => !at_ key cl y)).flatMap Ls.row) rfl ((HGV.out.drewN nq).alloc _) (.slice (some ⟨(wy.drewN nq).heap.size, 0, none⟩) 1 1) 1 [.string x0, .int .i64 x1, .int .i64 x2, .int .i64 x3] rfl (rd_new (wy.drewN nq) [.string x0, .int .i64 x1, .int .i64 x2, .int .i64 x3] 55 1 4 rfl (by decide)) (Ls.row_one ⟨x0, x1, x2, x3⟩) (by have h1 := HKQ.out; have h2 := HLEN.out; unfold maxLen; omega) (by have h1 := HKQ.out; have h2 := HLEN.out; omega) ?_; intro v2 w6 hv2 hg2 hf2; obtain ⟨oa2, oc2, rfl, _, _⟩ := hv2.shape; have HY := Lib.hid (And.intro hv2 (And.intro hg2 hf2)); clear hv2 hg2 hf2))
                  go_roundw
                  case rel =>
                    refine ⟨k + 1, q + 1, oa2, oc2, by have := HLT.out; omega, rfl, next_len HLT.out (by have := HM.out; have := HLEN.out; unfold maxLen; omega), Lib.hid (by rw [take_next HX.out, if_pos HPX.out, List.length_append, HQ.out]; rfl), Lib.hid ?_⟩
                    rw [take_next HX.out, if_pos HPX.out]
                    exact GL.push (x := ⟨x0, x1, x2, x3⟩) (HL.out.drewN nq) (by rw [← HQ.out]; exact HY.out.1) HY.out.2.1 HY.out.2.2
                  case measure => exact meas_len HLT.out (by have := HM.out; have := HLEN.out; unfold maxLen; omega)
              · obtain rfl : k = m := by omega
                have HE : Hid ((c.ls.take k).filter (fun y => !at_ key cl y) = c.ls.filter (fun y => !at_ key cl y)) := Lib.hid (by rw [List.take_of_length_le (by have := HM.out; omega)])
                clear hlt hkm
                have CTZ := CT5.out.kept HL.out.only fun e => e
                have y1 := CTZ.is 1 _ rfl
                have y2 := CTZ.is 2 _ rfl
                have y3 := CTZ.is 3 _ rfl
                have HRD := Lib.hid (rd_new wy [.string key, .int .i64 cl, .int .i64 (Nn : Int), .int .i64 (now + (hd : Int))] 55 1 4 rfl (by decide))
                have HGV := Lib.hid HL.out.row
                rw [← HQ.out] at HGV
                have hw : wrap64 (now + (hd : Int)) = now + (hd : Int) := HWR.out
                clear CTZ
                go_wp2_with (first | (at_builtin; refine wpList_append_any rfl _ _ 52 rfl 55 Try.t55 Ls.zero.v 4 40 under52 info55 t55_zero t55_size t55_bytes rfl (by decide) (.slice la q lc) q (((c.ls.take k).filter (fun y => !at_ key cl y)).flatMap Ls.row) rfl (HGV.out.alloc _) (.slice (some ⟨wy.heap.size, 0, none⟩) 1 1) 1 [.string key, .int .i64 cl, .int .i64 (Nn : Int), .int .i64 (now + (hd : Int))] rfl HRD.out (Ls.row_one ⟨key, cl, Nn, now + (hd : Int)⟩) (by have h1 := HKQ.out; have h2 := HLEN.out; unfold maxLen; omega) (by have h1 := HKQ.out; have h2 := HLEN.out; omega) ?_; intro v2 w6 hv2 hg2 hf2; obtain ⟨oa2, oc2, rfl, _, _⟩ := hv2.shape; have HY := Lib.hid (And.intro hv2 (And.intro hg2 hf2)); clear hv2 hg2 hf2))
                go_meet
                have hgl := GL.push (x := ⟨key, cl, (Nn : Int), now + (hd : Int)⟩) HL.out (by rw [← HQ.out]; exact HY.out.1) HY.out.2.1 HY.out.2.2
                rw [HE.out] at hgl
                have hls : (c.gave key cl now).ls = c.ls.filter (fun y => !at_ key cl y) ++ [⟨key, cl, (Nn : Int), now + (hd : Int)⟩] := by
                  rw [gave_ls]
                  unfold Tb.new
                  rw [HA.out.hold, HNN.out]
                  rfl
                have hql : q + 1 = (c.gave key cl now).ls.length := by rw [hls, List.length_append, ← HE.out, ← HQ.out]; rfl
                refine ⟨q + 1, oa2, oc2, S, nS, M, N, c.gave key cl now, rfl, rfl, Lib.hid hql, Lib.hid ((HA.out.turned H5.out.1 H5.out.2 rfl rfl rfl ?_ hgl.fresh hgl.only).later (by omega))⟩
                rw [hls]
                exact hgl.row
          · obtain ⟨code, hcd⟩ : ∃ code, c.giveCode key.data.toList now = code := ⟨_, rfl⟩
            have hne : code ≠ 0 := by rw [← hcd]; exact hcode
            have HG : Hid (Calls Try.prog 10 #[.pointer (some ⟨B, 0, none⟩), .string key, .int .i64 cl, .int .i64 now] wb fun e w' => e = .returned (.tuple #[.int .i64 0, .int .i64 code]) ∧ Only None' wb w') := Lib.hid ((give_no HA.out.c_ key HF.out.pl.1 cl now hcd hne).mono fun e w' ⟨h1, q, h2⟩ => ⟨h1, by rw [h2]; exact (Only.refl _ _).drewN q⟩)
            have e3 : (code == 0) = false := by simpa using hne
            clear hcode hcd hne
            go_wp2_with fail
            refine HG.out.mono ?_
            rintro e w5 ⟨rfl, o5⟩
            have HB := Lib.hid (HA.out.new_ o5)
            have CT5 := Lib.hid (CT.out.kept o5 fun e => e)
            have y1 := CT5.out.is 1 _ rfl
            clear o5 c0 c1 c2 c3 c4
            go_wp2_with fail
            go_meet
            exact ⟨m, aa, ac, S, nS, M, N, c, rfl, rfl, HM, Lib.hid (HB.out.later (by omega))⟩
        have z0 : ((kd : Int) == 0) = false := by simp; omega
        have z0' : (kd == 0) = false := by simpa using hk0
        by_cases hk1 : kd = 1
        · as_aux_lemma =>
          have z0 : ((kd : Int) == 0) = false := by simp; omega
          have z1 : ((kd : Int) == 1) = true := by simp; omega
          have z1' : (kd == 1) = true := by simpa using hk1
          clear hk0 hk1 z0'
          have HLEN := Lib.hid HA.out.long
          by_cases hm0 : m = 0
          · have d0 : ((m : Int) == 0) = true := by simp; omega
            have HB := HA
            clear hm0
            go_wp2_with fail
            go_meet
            exact ⟨m, aa, ac, S, nS, M, N, c, rfl, rfl, HM, Lib.hid (HB.out.later (by omega))⟩
          · have d0 : ((m : Int) == 0) = false := by simp; omega
            obtain ⟨kx, hkx, hkm⟩ := modm nn m (by omega) (by have := HLEN.out; have := HM.out; omega)
            have hu := u64_len (m := m) (by have := HLEN.out; have := HM.out; omega)
            have hv1 := HA.out.row
            rw [← HM.out] at hv1
            have R1 := Lib.hid hv1
            obtain ⟨ga, offa, rfl, hga, hcell, _⟩ := hv1.form' (by omega)
            have hkl : kx < c.ls.length := by have := HM.out; omega
            obtain ⟨y, hy⟩ : ∃ y, y = c.ls[kx] := ⟨_, rfl⟩
            have hcell2 : ∀ i u, (Ls.row y)[i]? = some u → wb.cell? ⟨ga, offa + kx * 4 + i, none⟩ = some u := fun i u h => by
              rw [hy] at h
              have := hcell (kx * 4 + i) u (flat_at Ls.row 4 c.ls kx (fun y _ => rfl) hkl i u h)
              rwa [← Nat.add_assoc] at this
            have HY : Hid (y ∈ c.ls) := Lib.hid (by rw [hy]; exact List.getElem_mem hkl)
            clear hy hcell
            obtain ⟨y0, y1, y2, y3⟩ := y
            have p0 := hcell2 0 _ rfl
            have p1 := hcell2 1 _ rfl
            have p2 := hcell2 2 _ rfl
            have p3 := hcell2 3 _ rfl
            rw [Nat.add_zero] at p0
            simp only at p0 p1 p2 p3
            have i2 : (0 : Int) ≤ (kx : Int) := by omega
            have i3 : (kx : Int) < (m : Int) := by omega
            obtain ⟨P, hP⟩ : ∃ P, P = wb.heap.size := ⟨_, rfl⟩
            obtain ⟨w4, hw4⟩ : ∃ w4, w4 = wb.alloc (.cells #[.string y0, .int .i64 y1, .int .i64 y2, .int .i64 y3] 55) := ⟨_, rfl⟩
            have o4 : Only None' wb w4 := by rw [hw4]; exact (Only.refl None' wb).alloc _
            have HA4 := Lib.hid (HA.out.new_ o4)
            have CT4 := Lib.hid (CT.out.kept o4 fun e => e)
            have CP : Hid (CellsR w4 P [.string y0, .int .i64 y1, .int .i64 y2, .int .i64 y3]) := Lib.hid (by rw [hw4, hP]; exact cells_new wb [.string y0, .int .i64 y1, .int .i64 y2, .int .i64 y3] 55)
            have HP : Hid (P ≠ B ∧ P ≠ M ∧ P ≠ N ∧ P ≠ S) := Lib.hid (by have h1 := HA.out.lt; omega)
            have ew4 := hw4.symm
            have eP := hP.symm
            have lT := CT.out.lt
            have t2 := CT4.out.is 2 _ rfl
            have r1 := CP.out.is 1 _ rfl
            have r2 := CP.out.is 2 _ rfl
            clear hw4 hP hkm hkl hga hcell2 hv1
            have O4 := Lib.hid o4
            clear o4
            by_cases hcy : cl = y1
            · have b1 : (cl == y1) = true := by simpa using hcy
              have HCY := Lib.hid hcy
              have HK := Lib.hid (back_lit HA4.out.c_ (cache := cl) (num := y2) (b := true) (by rw [show y2 = (⟨y0, y1, y2, y3⟩ : Ls).num from rfl, has_one HA.out.c_.ok.good HY.out, decide_eq_true_eq]; exact hcy) rfl)
              clear hcy
              go_wp2_with fail
              refine HK.out.mono ?_
              rintro e w5 ⟨rfl, h5, o5⟩
              have H5 := Lib.hid (And.intro h5 ((O4.out.mono fun _ _ e => e.elim).trans (o5.mono fun k _ (e : k = M) => (Or.inr e : k = B ∨ k = M))))
              have CT5 := Lib.hid (CT4.out.kept o5 (by have := HTn.out; omega))
              have CP5 := Lib.hid (CP.out.kept o5 (by have := HP.out; omega))
              have s1 := CT5.out.is 2 _ rfl
              have s2 := CP5.out.is 1 _ rfl
              have R5 : Hid (Vec w5 4 (.slice (some ⟨ga, offa, none⟩) m ac) m (c.ls.flatMap Ls.row)) := Lib.hid ((R1.out.only O4.out fun _ _ e => e).only o5 fun q hq e => by have := HA.out.av_ q hq; omega)
              clear h5 o5 HK c0 c1 c2 c3 c4 p0 p1 p2 p3 t2 r1 r2 ew4 eP hkx hu
              go_wp2_with fail
              clear s1 s2 i2 i3 b1 lT
              go_loopw [21, 22] (fun lv i wy => ∃ (k q : Nat) (la : Option Addr) (lc : Nat), k ≤ m ∧ lv = .slice la q lc ∧ i = .int .i64 (k : Int) ∧ Hid (q = ((c.ls.take k).filter (fun z => decide (z ≠ (⟨y0, y1, y2, y3⟩ : Ls)))).length) ∧ Hid (GL w5 wy (.slice la q lc) ((c.ls.take k).filter (fun z => decide (z ≠ (⟨y0, y1, y2, y3⟩ : Ls)))))) (fun _ i wy => m - (intOf i).toNat)
              case atStart => exact ⟨0, 0, none, 0, by omega, rfl, rfl, Lib.hid rfl, Lib.hid (GL.start _)⟩
              case round =>
                obtain ⟨k, q, la, lc, hkm, rfl, rfl, HQ, HL⟩ := hrel
                rename World => wy
                have HKQ : Hid (q ≤ c.ls.length) := Lib.hid (by rw [HQ.out]; exact Nat.le_trans (List.length_filter_le _ _) (by rw [List.length_take]; omega))
                by_cases hlt : k < m
                · have hkl : k < c.ls.length := by have := HM.out; omega
                  obtain ⟨ga', offa', eg, hga, hcell, _⟩ := (R5.out.only HL.out.only fun _ _ e => e).form' (by omega)
                  injection eg with eg
                  injection eg with eg1 eg2
                  subst eg1
                  subst eg2
                  obtain ⟨x, hx⟩ : ∃ x, x = c.ls[k] := ⟨_, rfl⟩
                  have hcell2 : ∀ i u, (Ls.row x)[i]? = some u → wy.cell? ⟨ga, offa + k * 4 + i, none⟩ = some u := fun i u h => by
                    rw [hx] at h
                    have := hcell (k * 4 + i) u (flat_at Ls.row 4 c.ls k (fun y _ => rfl) hkl i u h)
                    rwa [← Nat.add_assoc] at this
                  have HX : Hid (c.ls[k]? = some x) := Lib.hid (by rw [hx]; exact List.getElem?_eq_getElem hkl)
                  clear hx hcell
                  obtain ⟨x0, x1, x2, x3⟩ := x
                  have q0 := hcell2 0 _ rfl
                  have q1 := hcell2 1 _ rfl
                  have q2 := hcell2 2 _ rfl
                  have q3 := hcell2 3 _ rfl
                  rw [Nat.add_zero] at q0
                  simp only at q0 q1 q2 q3
                  have i2 : (0 : Int) ≤ (k : Int) := by omega
                  have i3 : (k : Int) < (m : Int) := by omega
                  have CTY := CT5.out.kept HL.out.only fun e => e
                  have HLT := Lib.hid hlt
                  have HGV := Lib.hid HL.out.row
                  rw [← HQ.out] at HGV
                  have r0 := (CP5.out.kept HL.out.only fun e => e).is 0 _ rfl
                  have r1 := (CP5.out.kept HL.out.only fun e => e).is 1 _ rfl
                  have r2 := (CP5.out.kept HL.out.only fun e => e).is 2 _ rfl
                  have r3 := (CP5.out.kept HL.out.only fun e => e).is 3 _ rfl
                  clear hkm hlt hkl hga hcell2 CTY
                  by_cases e0 : x0 = y0
                  · have b0 : (x0.toList == y0.toList) = true := by rw [same_str, decide_eq_true_eq]; exact e0
                    by_cases e1 : x1 = y1
                    · have b1 : (x1 == y1) = true := by simpa using e1
                      by_cases e2 : x2 = y2
                      · have b2 : (x2 == y2) = true := by simpa using e2
                        by_cases e3 : x3 = y3
                        · have b3 : (x3 == y3) = true := by simpa using e3
                          have HPX : Hid (¬ (fun z => decide (z ≠ (⟨y0, y1, y2, y3⟩ : Ls))) ⟨x0, x1, x2, x3⟩ = true) := Lib.hid (by simp [e0, e1, e2, e3])
                          clear e0 e1 e2 e3
                          go_wp2_with fail
                          go_quiet (fail)
                          go_wp2_with fail
                          go_roundw
                          case rel =>
                            refine ⟨k + 1, q, la, lc, by have := HLT.out; omega, rfl, next_len HLT.out (by have := HM.out; have := HLEN.out; unfold maxLen; omega), Lib.hid (by rw [take_next HX.out, if_neg HPX.out, List.append_nil, HQ.out]), Lib.hid ?_⟩
                            rw [take_next HX.out, if_neg HPX.out, List.append_nil]
                            exact HL.out.drewN nq
                          case measure => exact meas_len HLT.out (by have := HM.out; have := HLEN.out; unfold maxLen; omega)
                        · have b3 : (x3 == y3) = false := by simpa using e3
                          have HPX : Hid ((fun z => decide (z ≠ (⟨y0, y1, y2, y3⟩ : Ls))) ⟨x0, x1, x2, x3⟩ = true) := Lib.hid (by simp [e3])
                          clear e0 e1 e2 e3
                          go_wp2_with fail
                          go_quiet (fail)
                          go_wp2_with (first | (at_builtin; refine wpList_append_any rfl _ _ 52 rfl 55 Try.t55 Ls.zero.v 4 40 under52 info55 t55_zero t55_size t55_bytes rfl (by decide) (.slice la q lc) q (((c.ls.take k).filter (fun z => decide (z ≠ (⟨y0, y1, y2, y3⟩ : Ls)))).flatMap Ls.row) rfl ((HGV.out.drewN nq).alloc _) (.slice (some ⟨(wy.drewN nq).heap.size, 0, none⟩) 1 1) 1 [.string x0, .int .i64 x1, .int .i64 x2, .int .i64 x3] rfl (rd_new (wy.drewN nq) [.string x0, .int .i64 x1, .int .i64 x2, .int .i64 x3] 55 1 4 rfl (by decide)) (Ls.row_one ⟨x0, x1, x2, x3⟩) (by have h1 := HKQ.out; have h2 := HLEN.out; unfold maxLen; omega) (by have h1 := HKQ.out; have h2 := HLEN.out; omega) ?_; intro v2 w6 hv2 hg2 hf2; obtain ⟨oa2, oc2, rfl, _, _⟩ := hv2.shape; have HY := Lib.hid (And.intro hv2 (And.intro hg2 hf2)); clear hv2 hg2 hf2))
                          go_roundw
                          case rel =>
                            refine ⟨k + 1, q + 1, oa2, oc2, by have := HLT.out; omega, rfl, next_len HLT.out (by have := HM.out; have := HLEN.out; unfold maxLen; omega), Lib.hid (by rw [take_next HX.out, if_pos HPX.out, List.length_append, HQ.out]; rfl), Lib.hid ?_⟩
                            rw [take_next HX.out, if_pos HPX.out]
                            exact GL.push (x := ⟨x0, x1, x2, x3⟩) (HL.out.drewN nq) (by rw [← HQ.out]; exact HY.out.1) HY.out.2.1 HY.out.2.2
                          case measure => exact meas_len HLT.out (by have := HM.out; have := HLEN.out; unfold maxLen; omega)
                      · have b2 : (x2 == y2) = false := by simpa using e2
                        have HPX : Hid ((fun z => decide (z ≠ (⟨y0, y1, y2, y3⟩ : Ls))) ⟨x0, x1, x2, x3⟩ = true) := Lib.hid (by simp [e2])
                        clear e0 e1 e2
                        go_wp2_with fail
                        go_quiet (fail)
                        go_wp2_with (first | (at_builtin; refine wpList_append_any rfl _ _ 52 rfl 55 Try.t55 Ls.zero.v 4 40 under52 info55 t55_zero t55_size t55_bytes rfl (by decide) (.slice la q lc) q (((c.ls.take k).filter (fun z => decide (z ≠ (⟨y0, y1, y2, y3⟩ : Ls)))).flatMap Ls.row) rfl ((HGV.out.drewN nq).alloc _) (.slice (some ⟨(wy.drewN nq).heap.size, 0, none⟩) 1 1) 1 [.string x0, .int .i64 x1, .int .i64 x2, .int .i64 x3] rfl (rd_new (wy.drewN nq) [.string x0, .int .i64 x1, .int .i64 x2, .int .i64 x3] 55 1 4 rfl (by decide)) (Ls.row_one ⟨x0, x1, x2, x3⟩) (by have h1 := HKQ.out; have h2 := HLEN.out; unfold maxLen; omega) (by have h1 := HKQ.out; have h2 := HLEN.out; omega) ?_; intro v2 w6 hv2 hg2 hf2; obtain ⟨oa2, oc2, rfl, _, _⟩ := hv2.shape; have HY := Lib.hid (And.intro hv2 (And.intro hg2 hf2)); clear hv2 hg2 hf2))
                        go_roundw
                        case rel =>
                          refine ⟨k + 1, q + 1, oa2, oc2, by have := HLT.out; omega, rfl, next_len HLT.out (by have := HM.out; have := HLEN.out; unfold maxLen; omega), Lib.hid (by rw [take_next HX.out, if_pos HPX.out, List.length_append, HQ.out]; rfl), Lib.hid ?_⟩
                          rw [take_next HX.out, if_pos HPX.out]
                          exact GL.push (x := ⟨x0, x1, x2, x3⟩) (HL.out.drewN nq) (by rw [← HQ.out]; exact HY.out.1) HY.out.2.1 HY.out.2.2
                        case measure => exact meas_len HLT.out (by have := HM.out; have := HLEN.out; unfold maxLen; omega)
                    · have b1 : (x1 == y1) = false := by simpa using e1
                      have HPX : Hid ((fun z => decide (z ≠ (⟨y0, y1, y2, y3⟩ : Ls))) ⟨x0, x1, x2, x3⟩ = true) := Lib.hid (by simp [e1])
                      clear e0 e1
                      go_wp2_with fail
                      go_quiet (fail)
                      go_wp2_with (first | (at_builtin; refine wpList_append_any rfl _ _ 52 rfl 55 Try.t55 Ls.zero.v 4 40 under52 info55 t55_zero t55_size t55_bytes rfl (by decide) (.slice la q lc) q (((c.ls.take k).filter (fun z => decide (z ≠ (⟨y0, y1, y2, y3⟩ : Ls)))).flatMap Ls.row) rfl ((HGV.out.drewN nq).alloc _) (.slice (some ⟨(wy.drewN nq).heap.size, 0, none⟩) 1 1) 1 [.string x0, .int .i64 x1, .int .i64 x2, .int .i64 x3] rfl (rd_new (wy.drewN nq) [.string x0, .int .i64 x1, .int .i64 x2, .int .i64 x3] 55 1 4 rfl (by decide)) (Ls.row_one ⟨x0, x1, x2, x3⟩) (by have h1 := HKQ.out; have h2 := HLEN.out; unfold maxLen; omega) (by have h1 := HKQ.out; have h2 := HLEN.out; omega) ?_; intro v2 w6 hv2 hg2 hf2; obtain ⟨oa2, oc2, rfl, _, _⟩ := hv2.shape; have HY := Lib.hid (And.intro hv2 (And.intro hg2 hf2)); clear hv2 hg2 hf2))
                      go_roundw
                      case rel =>
                        refine ⟨k + 1, q + 1, oa2, oc2, by have := HLT.out; omega, rfl, next_len HLT.out (by have := HM.out; have := HLEN.out; unfold maxLen; omega), Lib.hid (by rw [take_next HX.out, if_pos HPX.out, List.length_append, HQ.out]; rfl), Lib.hid ?_⟩
                        rw [take_next HX.out, if_pos HPX.out]
                        exact GL.push (x := ⟨x0, x1, x2, x3⟩) (HL.out.drewN nq) (by rw [← HQ.out]; exact HY.out.1) HY.out.2.1 HY.out.2.2
                      case measure => exact meas_len HLT.out (by have := HM.out; have := HLEN.out; unfold maxLen; omega)
                  · have b0 : (x0.toList == y0.toList) = false := by rw [same_str, decide_eq_false_iff_not]; exact e0
                    have HPX : Hid ((fun z => decide (z ≠ (⟨y0, y1, y2, y3⟩ : Ls))) ⟨x0, x1, x2, x3⟩ = true) := Lib.hid (by simp [e0])
                    clear e0
                    go_wp2_with fail
                    go_quiet (fail)
                    go_wp2_with (first | (at_builtin; refine wpList_append_any rfl _ _ 52 rfl 55 Try.t55 Ls.zero.v 4 40 under52 info55 t55_zero t55_size t55_bytes rfl (by decide) (.slice la q lc) q (((c.ls.take k).filter (fun z => decide (z ≠ (⟨y0, y1, y2, y3⟩ : Ls)))).flatMap Ls.row) rfl ((HGV.out.drewN nq).alloc _) (.slice (some ⟨(wy.drewN nq).heap.size, 0, none⟩) 1 1) 1 [.string x0, .int .i64 x1, .int .i64 x2, .int .i64 x3] rfl (rd_new (wy.drewN nq) [.string x0, .int .i64 x1, .int .i64 x2, .int .i64 x3] 55 1 4 rfl (by decide)) (Ls.row_one ⟨x0, x1, x2, x3⟩) (by have h1 := HKQ.out; have h2 := HLEN.out; unfold maxLen; omega) (by have h1 := HKQ.out; have h2 := HLEN.out; omega) ?_; intro v2 w6 hv2 hg2 hf2; obtain ⟨oa2, oc2, rfl, _, _⟩ := hv2.shape; have HY := Lib.hid (And.intro hv2 (And.intro hg2 hf2)); clear hv2 hg2 hf2))
                    go_roundw
                    case rel =>
                      refine ⟨k + 1, q + 1, oa2, oc2, by have := HLT.out; omega, rfl, next_len HLT.out (by have := HM.out; have := HLEN.out; unfold maxLen; omega), Lib.hid (by rw [take_next HX.out, if_pos HPX.out, List.length_append, HQ.out]; rfl), Lib.hid ?_⟩
                      rw [take_next HX.out, if_pos HPX.out]
                      exact GL.push (x := ⟨x0, x1, x2, x3⟩) (HL.out.drewN nq) (by rw [← HQ.out]; exact HY.out.1) HY.out.2.1 HY.out.2.2
                    case measure => exact meas_len HLT.out (by have := HM.out; have := HLEN.out; unfold maxLen; omega)
                · obtain rfl : k = m := by omega
                  have HE : Hid ((c.ls.take k).filter (fun z => decide (z ≠ (⟨y0, y1, y2, y3⟩ : Ls))) = c.ls.filter (fun z => decide (z ≠ (⟨y0, y1, y2, y3⟩ : Ls)))) := Lib.hid (by rw [List.take_of_length_le (by have := HM.out; omega)])
                  clear hlt hkm
                  go_wp2_with fail
                  go_meet
                  have hgl := HL.out
                  rw [HE.out] at hgl
                  have hls : (c.back cl y2).ls = c.ls.filter (fun z => decide (z ≠ (⟨y0, y1, y2, y3⟩ : Ls))) := by
                    have := back_one HA.out.c_.ok.good HY.out
                    simp only at this
                    rw [← this, HCY.out]
                    rfl
                  have hql : q = (c.back cl y2).ls.length := by rw [hls, ← HE.out, ← HQ.out]
                  refine ⟨q, la, lc, S, nS, M, N, c.back cl y2, rfl, rfl, Lib.hid hql, Lib.hid ((HA.out.turned H5.out.1 H5.out.2 rfl rfl rfl ?_ hgl.fresh hgl.only).later (by omega))⟩
                  rw [hls]
                  exact hgl.row
            · have b1 : (cl == y1) = false := by simpa using hcy
              have hhas : c.has cl y2 = false := by rw [show y2 = (⟨y0, y1, y2, y3⟩ : Ls).num from rfl, has_one HA.out.c_.ok.good HY.out, decide_eq_false_iff_not]; exact hcy
              have HK := Lib.hid (back_lit HA4.out.c_ hhas (Tb.back_none hhas))
              clear hcy hhas
              go_wp2_with fail
              refine HK.out.mono ?_
              rintro e w5 ⟨rfl, h5, o5⟩
              have HB := Lib.hid (HA4.out.same h5 (o5.mono fun k _ (e : k = M) => (Or.inr e : k = B ∨ k = M)))
              have CT5 := Lib.hid (CT4.out.kept o5 (by have := HTn.out; omega))
              have CP5 := Lib.hid (CP.out.kept o5 (by have := HP.out; omega))
              have s1 := CT5.out.is 2 _ rfl
              have s2 := CP5.out.is 1 _ rfl
              clear h5 o5 HK c0 c1 c2 c3 c4 p0 p1 p2 p3 t2 r1 r2 ew4 eP hkx hu
              go_wp2_with fail
              go_meet
              exact ⟨m, some ⟨ga, offa, none⟩, ac, S, nS, M, N, c, rfl, rfl, HM, Lib.hid (HB.out.later (by omega))⟩
        have z1 : ((kd : Int) == 1) = false := by simp; omega
        have z1' : (kd == 1) = false := by simpa using hk1
        by_cases hk2 : kd = 2
        · as_aux_lemma =>
          have z2 : ((kd : Int) == 2) = true := by simp; omega
          have z2' : (kd == 2) = true := by simpa using hk2
          clear hk0 hk1 hk2
          have HK := Lib.hid (shut_lit HA.out.c_ (key := key) HF.out.pl.1 (by have := HA.out.cnt; have := H150.out; have := HJ.out; omega) rfl)
          go_wp2_with fail
          refine HK.out.mono ?_
          rintro e w5 ⟨rfl, h5, o5⟩
          have H5 := Lib.hid (And.intro h5 o5)
          have CT5 := Lib.hid (CT.out.kept o5 (by have := HTn.out; omega))
          have y0 := CT5.out.is 0 _ rfl
          have y1 := CT5.out.is 1 _ rfl
          obtain ⟨f, hs1, hs2⟩ := HA.out.s_
          obtain ⟨D, hD1, hD2⟩ := (hs1.only o5 (by have := HA.out.apart; omega)).own
          have HD := Lib.hid (And.intro hD1 (And.intro hD2 hs2))
          clear h5 o5 hs1 hs2 hD1 hD2 HK c0 c1 c2 c3 c4
          go_wp2_with (first
            | (at_delete; refine wpList_delete_own _ rfl _ _ 53 9 rfl 3 keyed9 under53 (plainElem Try.prog 3) S nS D rfl HD.out.1 (.string key) _ rfl (key_str HF.out.pl.1) ?_; intro w6 ho6 ht6; have HO6 := Lib.hid ho6; have O6 : Hid (Only (fun q => q = S) w5 w6) := Lib.hid ((Only.refl _ _).turned ht6 rfl); have CT6 := Lib.hid (CT5.out.kept O6.out (by have := HTn.out; omega)); have v0 := CT6.out.is 0 _ rfl; have v1 := CT6.out.is 1 _ rfl; clear ho6 ht6 y0 y1)
            | (at_mapUpdate; refine wpList_mapUpdate_in _ rfl _ _ _ 53 rfl 9 3 keyed9 under53 (plainElem Try.prog 3) S nS (D.del (.string key.data.toList)) rfl HO6.out (by have := HNS.out; unfold maxLen; omega) (.string key) (.int .i64 1) (.string key.data.toList) rfl rfl (key_str HF.out.pl.1) (.lit (.int .i64 1)) [] (plainElem_int Try.underlying3 (by decide)) ?_; intro w7 ho7 ht7; have HO7 := Lib.hid ho7; have O7 : Hid (Only (fun q => q = S) w6 w7) := Lib.hid ((Only.refl _ _).turned ht7 rfl); clear ho7 ht7))
          go_meet
          refine ⟨m, aa, ac, S, nS + 1, M, N, c.shutted key.data.toList, rfl, rfl, HM, Lib.hid (HA.out.shuts (g := updS (updS f key.data.toList 0) key.data.toList 1) H5.out.1 H5.out.2 rfl rfl (by have := HA.out.cnt; show c.cnt + 1 ≤ j + 1; omega) ?_ (by have := HA.out.few; omega) (fun k hk => ?_) (O6.out.trans O7.out))⟩
          · obtain ⟨D', h1, h2⟩ := (SMap.del HD.out.2.1 HO6.out).own
            exact SMap.put (D := D.del (.string key.data.toList)) (fun k => by
              unfold updS
              by_cases e : k = key.data.toList
              · subst e
                rw [atKey_del_same, if_pos rfl]
              · rw [atKey_del_other (fun e' => e (by injection e')), if_neg e, HD.out.2.1 k]) HO6.out.isMap HO7.out
          · rw [mem_shutted]
            by_cases e : k = key.data.toList
            · exact Or.inr e
            · unfold updS at hk
              rw [if_neg e, if_neg e] at hk
              exact Or.inl (HD.out.2.2 k hk)
        have z2 : ((kd : Int) == 2) = false := by simp; omega
        have z2' : (kd == 2) = false := by simpa using hk2
        by_cases hk3 : kd = 3
        · as_aux_lemma =>
          have z2 : ((kd : Int) == 2) = false := by simp; omega
          have z2' : (kd == 2) = false := by simpa using hk2
          have z3 : ((kd : Int) == 3) = true := by simp; omega
          have z3' : (kd == 3) = true := by simpa using hk3
          clear hk0 hk1 hk2 hk3
          have HK := Lib.hid (unshut_any HA.out.c_ key HF.out.pl.1)
          go_wp2_with fail
          refine HK.out.mono ?_
          rintro e w5 ⟨rfl, h5, o5⟩
          have H5 := Lib.hid (And.intro h5 o5)
          have CT5 := Lib.hid (CT.out.kept o5 (by have := HTn.out; omega))
          have y0 := CT5.out.is 0 _ rfl
          have y1 := CT5.out.is 1 _ rfl
          obtain ⟨f, hs1, hs2⟩ := HA.out.s_
          obtain ⟨D, hD1, hD2⟩ := (hs1.only o5 (by have := HA.out.apart; omega)).own
          have HD := Lib.hid (And.intro hD1 (And.intro hD2 hs2))
          clear h5 o5 hs1 hs2 hD1 hD2 HK c0 c1 c2 c3 c4
          go_wp2_with (first
            | (at_delete; refine wpList_delete_own _ rfl _ _ 53 9 rfl 3 keyed9 under53 (plainElem Try.prog 3) S nS D rfl HD.out.1 (.string key) _ rfl (key_str HF.out.pl.1) ?_; intro w6 ho6 ht6; have HO6 := Lib.hid ho6; have O6 : Hid (Only (fun q => q = S) w5 w6) := Lib.hid ((Only.refl _ _).turned ht6 rfl); have CT6 := Lib.hid (CT5.out.kept O6.out (by have := HTn.out; omega)); have v0 := CT6.out.is 0 _ rfl; have v1 := CT6.out.is 1 _ rfl; clear ho6 ht6 y0 y1)
            | (at_mapUpdate; refine wpList_mapUpdate_in _ rfl _ _ _ 53 rfl 9 3 keyed9 under53 (plainElem Try.prog 3) S nS (D.del (.string key.data.toList)) rfl HO6.out (by have := HNS.out; unfold maxLen; omega) (.string key) (.int .i64 1) (.string key.data.toList) rfl rfl (key_str HF.out.pl.1) (.lit (.int .i64 1)) [] (plainElem_int Try.underlying3 (by decide)) ?_; intro w7 ho7 ht7; have HO7 := Lib.hid ho7; have O7 : Hid (Only (fun q => q = S) w6 w7) := Lib.hid ((Only.refl _ _).turned ht7 rfl); clear ho7 ht7))
          go_meet
          refine ⟨m, aa, ac, S, nS, M, N, c.unshut key.data.toList, rfl, rfl, HM, Lib.hid (HA.out.shuts (g := updS f key.data.toList 0) H5.out.1 H5.out.2 rfl rfl (by have := HA.out.cnt; show c.cnt ≤ j + 1; omega) (SMap.del HD.out.2.1 HO6.out) (by have := HA.out.few; omega) (fun k hk => ?_) O6.out)⟩
          rw [mem_unshut]
          unfold updS at hk
          by_cases e : k = key.data.toList
          · rw [if_pos e] at hk
            omega
          · rw [if_neg e] at hk
            exact ⟨HD.out.2.2 k hk, e⟩
        have z3 : ((kd : Int) == 3) = false := by simp; omega
        have z3' : (kd == 3) = false := by simpa using hk3
        by_cases hk4 : kd = 4
        · as_aux_lemma =>
          have z4 : ((kd : Int) == 4) = true := by simp; omega
          have z4' : (kd == 4) = true := by simpa using hk4
          clear hk0 hk1 hk2 hk3 hk4
          have HK := Lib.hid (clear_any HA.out.c_)
          go_wp2_with fail
          refine HK.out.mono ?_
          rintro e w5 ⟨rfl, M', N', h5, hM, hN, o5⟩
          have H5 := Lib.hid (HA.out.cleared h5 hM hN o5)
          clear h5 hM hN o5 HK c0 c1 c2 c3 c4
          go_wp2_with fail
          go_meet
          exact ⟨0, none, 0, w5.heap.size, 0, M', N', c.cleared, rfl, rfl, Lib.hid rfl, Lib.hid (H5.out.later (by omega))⟩
        have z4 : ((kd : Int) == 4) = false := by simp; omega
        have z4' : (kd == 4) = false := by simpa using hk4
        as_aux_lemma =>
        clear hk0 hk1 hk2 hk3 hk4
        go_wp2_with fail
        go_meet
        exact ⟨m, aa, ac, S, nS, M, N, c, rfl, rfl, HM, Lib.hid (HA.out.later (by omega))⟩
      case rest =>
          as_aux_lemma =>
          obtain ⟨m', aa', ac', S', nS', M', N', c', rfl, rfl, HM', HC⟩ := hcut
          rename World => wz
          clear HA HM CT HTn HNS HF
          have HLEN := Lib.hid HC.out.long
          have HK := Lib.hid (all_any HC.out.c_ (now0 : Int))
          go_wp2_with fail
          refine HK.out.mono ?_
          rintro e w3 ⟨v3, l3, rfl, hp3, -, hv3, -, o3⟩
          obtain ⟨a3, k3, rfl, _, _⟩ := hv3.shape
          obtain ⟨q3, hq3⟩ : ∃ q3, q3 = l3.length := ⟨_, rfl⟩
          rw [← hq3]
          have HQ3 : Hid (q3 = (c'.ls.filter (live (now0 : Int))).length) := Lib.hid (by rw [hq3, hp3.length_eq])
          have HC3 := Lib.hid (HC.out.new_ o3)
          have R3 : Hid (Vec w3 4 (.slice aa' m' ac') m' (c'.ls.flatMap Ls.row)) := Lib.hid (by have h := HC3.out.row; rwa [← HM'.out] at h)
          clear hp3 hv3 o3 hq3 HK
          go_wp2_with fail
          go_loopw [24, 25] (fun o i wy => ∃ (k q : Nat), k ≤ m' ∧ o = .int .i64 (q : Int) ∧ i = .int .i64 (k : Int) ∧ Hid (q = ((c'.ls.take k).filter (live (now0 : Int))).length) ∧ Hid (Only None' w3 wy)) (fun _ i wy => m' - (intOf i).toNat)
          case atStart => exact ⟨0, 0, by omega, rfl, rfl, Lib.hid rfl, Lib.hid (Only.refl _ _)⟩
          case round =>
            obtain ⟨k, q, hkm, rfl, rfl, HQ, HO⟩ := hrel
            rename World => wy
            have HKQ : Hid (q ≤ c'.ls.length) := Lib.hid (by rw [HQ.out]; exact Nat.le_trans (List.length_filter_le _ _) (by rw [List.length_take]; omega))
            by_cases hlt : k < m'
            · have hkl : k < c'.ls.length := by have := HM'.out; omega
              obtain ⟨ga, offa, rfl, hga, hcell, _⟩ := (R3.out.only HO.out fun _ _ e => e).form' (by omega)
              obtain ⟨x, hx⟩ : ∃ x, x = c'.ls[k] := ⟨_, rfl⟩
              have hcell2 : ∀ wq, Only None' wy wq → ∀ i u, (Ls.row x)[i]? = some u → wq.cell? ⟨ga, offa + k * 4 + i, none⟩ = some u := fun wq oq i u h => by
                rw [hx] at h
                have := hcell (k * 4 + i) u (flat_at Ls.row 4 c'.ls k (fun y _ => rfl) hkl i u h)
                rw [oq.cell hga (fun e => e)]
                rwa [← Nat.add_assoc] at this
              have HX : Hid (c'.ls[k]? = some x) := Lib.hid (by rw [hx]; exact List.getElem?_eq_getElem hkl)
              clear hx hcell
              obtain ⟨x0, x1, x2, x3⟩ := x
              have HCL := Lib.hid hcell2
              have q0 := hcell2 wy (Only.refl _ _) 0 _ rfl
              have q3' := hcell2 wy (Only.refl _ _) 3 _ rfl
              rw [Nat.add_zero] at q0
              simp only at q0 q3'
              have i2 : (0 : Int) ≤ (k : Int) := by omega
              have i3 : (k : Int) < (m' : Int) := by omega
              have HLT := Lib.hid hlt
              clear hkm hlt hkl hga hcell2
              by_cases hlv : (now0 : Int) < x3
              · have d0 : decide (x3 ≤ (now0 : Int)) = false := by rw [decide_eq_false_iff_not]; omega
                have HPX : Hid (live (now0 : Int) ⟨x0, x1, x2, x3⟩ = true) := Lib.hid (by simpa [live] using hlv)
                have HK := Lib.hid (outL_any (HC3.out.c_.new HO.out) x0 (now0 : Int))
                clear hlv
                go_wp2_with fail
                refine HK.out.mono ?_
                rintro e w4 ⟨v4, l2, rfl, hp4, -, hv4, -, o4⟩
                obtain ⟨a4, k4, rfl, _, _⟩ := hv4.shape
                obtain ⟨q2, hq2⟩ : ∃ q2, q2 = l2.length := ⟨_, rfl⟩
                rw [← hq2] at hv4 ⊢
                have HV4 := Lib.hid hv4
                have HQ2 := Lib.hid hq2
                have HL2 : Hid (q2 ≤ 1048575) := Lib.hid (by
                  rw [hq2, hp4.length_eq]
                  exact Nat.le_trans (List.length_filter_le _ _) (Nat.le_trans (List.length_filter_le _ _) HLEN.out))
                have HIN : Hid ((⟨x0, x1, x2, x3⟩ : Ls) ∈ l2) := Lib.hid (hp4.mem_iff.2 (List.mem_filter.2 ⟨List.mem_filter.2 ⟨List.mem_of_getElem? HX.out, HPX.out⟩, by simp [ofKey]⟩))
                have O4 := Lib.hid (HO.out.trans o4)
                have OY := Lib.hid o4
                clear hp4 hv4 o4 hq2 HK q0 q3' d0
                go_wp2_with fail
                go_loopw [26, 28] (fun b i wy => ∃ (k2 : Nat) (bb : Bool), k2 ≤ q2 ∧ b = .bool bb ∧ i = .int .i64 (k2 : Int) ∧ Hid (bb = (l2.take k2).any (hitX x1 x2 x3)) ∧ Hid (Only None' w4 wy)) (fun _ i wy => q2 - (intOf i).toNat)
                case atStart => exact ⟨0, false, by omega, rfl, rfl, Lib.hid rfl, Lib.hid (Only.refl _ _)⟩
                case round =>
                  obtain ⟨k2, bb, hk2, rfl, rfl, HB2, HO2⟩ := hrel
                  rename World => wv
                  by_cases hlt2 : k2 < q2
                  · have hkl2 : k2 < l2.length := by have := HQ2.out; omega
                    obtain ⟨gb, offb, rfl, hgb, hcellb, _⟩ := (HV4.out.only HO2.out fun _ _ e => e).form' (by omega)
                    obtain ⟨y, hy⟩ : ∃ y, y = l2[k2] := ⟨_, rfl⟩
                    have hcellb2 : ∀ i u, (Ls.row y)[i]? = some u → wv.cell? ⟨gb, offb + k2 * 4 + i, none⟩ = some u := fun i u h => by
                      rw [hy] at h
                      have := hcellb (k2 * 4 + i) u (flat_at Ls.row 4 l2 k2 (fun y _ => rfl) hkl2 i u h)
                      rwa [← Nat.add_assoc] at this
                    have HX2 : Hid (l2[k2]? = some y) := Lib.hid (by rw [hy]; exact List.getElem?_eq_getElem hkl2)
                    clear hy hcellb
                    obtain ⟨y0, y1, y2, y3⟩ := y
                    have p1 := hcellb2 1 _ rfl
                    have p2 := hcellb2 2 _ rfl
                    have p3 := hcellb2 3 _ rfl
                    have q1 := HCL.out wv (OY.out.trans HO2.out) 1 _ rfl
                    have q2' := HCL.out wv (OY.out.trans HO2.out) 2 _ rfl
                    have q3' := HCL.out wv (OY.out.trans HO2.out) 3 _ rfl
                    simp only at p1 p2 p3 q1 q2' q3'
                    have i4 : (0 : Int) ≤ (k2 : Int) := by omega
                    have i5 : (k2 : Int) < (q2 : Int) := by omega
                    have HLT2 := Lib.hid hlt2
                    clear hk2 hlt2 hkl2 hgb hcellb2
                    cases bb with
                    | true =>
                      have HPX : Hid ((l2.take (k2 + 1)).any (hitX x1 x2 x3) = true) := Lib.hid (by rw [take_any HX2.out, ← HB2.out]; rfl)
                      go_wp2_with fail
                      go_quiet (fail)
                      go_wp2_with fail
                      go_roundw
                      case rel => exact ⟨k2 + 1, true, by have := HLT2.out; omega, rfl, next_len HLT2.out (by have := HL2.out; unfold maxLen; omega), Lib.hid HPX.out.symm, Lib.hid (HO2.out.drewN nq)⟩
                      case measure => exact meas_len HLT2.out (by have := HL2.out; unfold maxLen; omega)
                    | false =>
                      by_cases e1 : y1 = x1
                      · have b1 : (y1 == x1) = true := by simpa using e1
                        by_cases e2 : y2 = x2
                        · have b2 : (y2 == x2) = true := by simpa using e2
                          by_cases e3 : y3 = x3
                          · have b3 : (y3 == x3) = true := by simpa using e3
                            have HPX : Hid ((l2.take (k2 + 1)).any (hitX x1 x2 x3) = true) := Lib.hid (by rw [take_any HX2.out]; simp [hitX, e1, e2, e3])
                            clear e1 e2 e3
                            go_wp2_with fail
                            go_quiet (fail)
                            go_wp2_with fail
                            go_roundw
                            case rel => exact ⟨k2 + 1, true, by have := HLT2.out; omega, rfl, next_len HLT2.out (by have := HL2.out; unfold maxLen; omega), Lib.hid HPX.out.symm, Lib.hid (HO2.out.drewN nq)⟩
                            case measure => exact meas_len HLT2.out (by have := HL2.out; unfold maxLen; omega)
                          · have b3 : (y3 == x3) = false := by simpa using e3
                            have HPX : Hid ((l2.take (k2 + 1)).any (hitX x1 x2 x3) = false) := Lib.hid (by rw [take_any HX2.out, ← HB2.out]; simp [hitX, e3])
                            clear e1 e2 e3
                            go_wp2_with fail
                            go_quiet (fail)
                            go_wp2_with fail
                            go_roundw
                            case rel => exact ⟨k2 + 1, false, by have := HLT2.out; omega, rfl, next_len HLT2.out (by have := HL2.out; unfold maxLen; omega), Lib.hid HPX.out.symm, Lib.hid (HO2.out.drewN nq)⟩
                            case measure => exact meas_len HLT2.out (by have := HL2.out; unfold maxLen; omega)
                        · have b2 : (y2 == x2) = false := by simpa using e2
                          have HPX : Hid ((l2.take (k2 + 1)).any (hitX x1 x2 x3) = false) := Lib.hid (by rw [take_any HX2.out, ← HB2.out]; simp [hitX, e2])
                          clear e1 e2
                          go_wp2_with fail
                          go_quiet (fail)
                          go_wp2_with fail
                          go_roundw
                          case rel => exact ⟨k2 + 1, false, by have := HLT2.out; omega, rfl, next_len HLT2.out (by have := HL2.out; unfold maxLen; omega), Lib.hid HPX.out.symm, Lib.hid (HO2.out.drewN nq)⟩
                          case measure => exact meas_len HLT2.out (by have := HL2.out; unfold maxLen; omega)
                      · have b1 : (y1 == x1) = false := by simpa using e1
                        have HPX : Hid ((l2.take (k2 + 1)).any (hitX x1 x2 x3) = false) := Lib.hid (by rw [take_any HX2.out, ← HB2.out]; simp [hitX, e1])
                        clear e1
                        go_wp2_with fail
                        go_quiet (fail)
                        go_wp2_with fail
                        go_roundw
                        case rel => exact ⟨k2 + 1, false, by have := HLT2.out; omega, rfl, next_len HLT2.out (by have := HL2.out; unfold maxLen; omega), Lib.hid HPX.out.symm, Lib.hid (HO2.out.drewN nq)⟩
                        case measure => exact meas_len HLT2.out (by have := HL2.out; unfold maxLen; omega)
                  · obtain rfl : k2 = q2 := by omega
                    have hbb : bb = true := by
                      rw [HB2.out, List.take_of_length_le (by have := HQ2.out; omega), List.any_eq_true]
                      exact ⟨_, HIN.out, by simp [hitX]⟩
                    subst hbb
                    clear hk2 hlt2
                    go_wp2_with fail
                    go_roundw
                    case rel =>
                      refine ⟨k + 1, q + 1, by have := HLT.out; omega, next_len (n := q + 1) (by omega) (by have := HKQ.out; have := HLEN.out; unfold maxLen; omega), next_len HLT.out (by have := HM'.out; have := HLEN.out; unfold maxLen; omega), Lib.hid (by rw [take_next HX.out, if_pos HPX.out, List.length_append, HQ.out]; rfl), Lib.hid (O4.out.trans HO2.out)⟩
                    case measure => exact meas_len HLT.out (by have := HM'.out; have := HLEN.out; unfold maxLen; omega)
              · have d0 : decide (x3 ≤ (now0 : Int)) = true := by rw [decide_eq_true_eq]; omega
                have HPX : Hid (¬ live (now0 : Int) ⟨x0, x1, x2, x3⟩ = true) := Lib.hid (by simpa [live] using hlv)
                clear hlv
                go_wp2_with fail
                go_roundw
                case rel => exact ⟨k + 1, q, by have := HLT.out; omega, rfl, next_len HLT.out (by have := HM'.out; have := HLEN.out; unfold maxLen; omega), Lib.hid (by rw [take_next HX.out, if_neg HPX.out, List.append_nil, HQ.out]), HO⟩
                case measure => exact meas_len HLT.out (by have := HM'.out; have := HLEN.out; unfold maxLen; omega)
            · obtain rfl : k = m' := by omega
              have hqq : q = q3 := by rw [HQ.out, HQ3.out, List.take_of_length_le (by have := HM'.out; omega)]
              subst hqq
              clear hkm hlt
              go_wp2_with fail
              go_roundw
              case rel => exact ⟨j + 1, k, aa', ac', S', nS', M', N', c', by have := HJ.out; omega, rfl, rfl, next_int (by have := HJ.out; have := H150.out; omega), HM', Lib.hid (HC3.out.new_ HO.out)⟩
              case measure => exact meas HJ.out (by have := H150.out; omega)
    · obtain rfl : j = n := by omega
      go_wp2_with fail
      go_ret
      exact ⟨rfl, HI.out.only.below (Nat.le_refl _) fun _ e => e.elim⟩
theorem kept_walk (x y : Int) (a : Option Addr) (n c : Nat) (ss : List Stp) (z : Int) (w : World) (rd : Steps w a n ss) : Calls Try.prog 6 #[.int .i64 x, .int .i64 y, .slice a n c, .int .i64 z] w fun e w' => e = .returned (.bool true) ∧ Below w.heap.size w w' := by
  by_cases h : 150 < n
  · exact kept_long x y a n c z w h
  · exact kept_main x y a n c ss z w rd (by omega)
end Go.Proofs.Ytfjfpnlcmjpofaa
