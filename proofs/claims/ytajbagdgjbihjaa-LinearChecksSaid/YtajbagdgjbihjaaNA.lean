/- could's look (29): the walk. -/
import Derived.Test.YtajbagdgjbihjaaD9
import Derived.Deep.CutBlock
import Derived.BigQuiet
import Derived.WalkMore
import Derived.Deep.LoopGhost
import Derived.Deep.RegionHeld3
namespace Go.Proofs.Ytajbagdgjbihjaa
open Go.RowKit Go.Maps
set_option linter.unusedVariables false

theorem zero3 (w : World) : (zeroValue 3).run Try.prog w = .ok (.int .i64 0) w := by kernel_rfl
set_option maxRecDepth 20000 in
set_option maxHeartbeats 8000000 in
theorem look_step (l : List Opn) (hl : l.length ≤ 14) (need : Nat) (hN : Needs l need) (s : St) (hs : StOk s) (IH : ∀ t, StOk t → free l t.1 < free l s.1 → LookOK l need t) : LookOK l need s := by
  intro w NB SB LB FB S lv D n f hE hO hC hb hm
  obtain ⟨la, lc, rfl⟩ := hE.row.shape
  obtain ⟨ln, hln⟩ : ∃ ln, ln = l.length := ⟨_, rfl⟩
  have HLN := Lib.hid (And.intro hln hl)
  rw [← hln] at hE
  have HL := Lib.hid hl
  have HN := Lib.hid hN
  have HIH := Lib.hid IH
  obtain ⟨done, st⟩ := s
  have HS := Lib.hid hs
  have HB := Lib.hid hb
  have HM := Lib.hid hm
  obtain ⟨C, hCe⟩ : ∃ C, C = w.heap.size := ⟨_, rfl⟩
  obtain ⟨wa, hwa⟩ : ∃ wa, wa = w.alloc (.cells #[.int .i64 (done : Int), .bool st.isSome, .string (st.getD ⟨#[]⟩)] 84) := ⟨_, rfl⟩
  have oa : Only None' w wa := by rw [hwa]; exact (Only.refl None' w).alloc _
  have cC : CellsR wa C [.int .i64 (done : Int), .bool st.isSome, .string (st.getD ⟨#[]⟩)] := by rw [hwa, hCe]; exact cells_new w [.int .i64 (done : Int), .bool st.isSome, .string (st.getD ⟨#[]⟩)] 84
  have hEa := hE.only (oa.mono fun _ _ e => e.elim)
  have hOa := owns_same hO (oa.block S hO.lt fun e => e)
  have nCS : C ≠ S := by have := hO.lt; omega
  have OA := Lib.hid oa
  have CC := Lib.hid cC
  have EA := Lib.hid hEa
  have OWN := Lib.hid hOa
  have CNT := Lib.hid hC
  have HCW := Lib.hid (show w.heap.size ≤ C by omega)
  have HCS := Lib.hid nCS
  have c0 := cC.is 0 _ rfl
  have c1 := cC.is 1 _ rfl
  have c2 := cC.is 2 _ rfl
  have enb := hEa.nb
  have esb := hEa.sb
  have elb := hEa.lb
  have ewa := hwa.symm
  have eC := hCe.symm
  have hband : bits .and .i64 (done : Int) (need : Int) = ((done &&& need : Nat) : Int) := bits_and_i64 _ _ (by have := hs.1; simp only at this; omega) (by have := hN.1; omega)
  obtain ⟨an, han⟩ : ∃ an, an = done &&& need := ⟨_, rfl⟩
  rw [← han] at hband
  have HAN := Lib.hid han
  clear hE hO hC hb hm hs hl hN IH oa cC hEa hOa nCS hwa hCe han hln
  unfold stV
  go_enter Try.func29, Try.ntmps29
  go_wp2_with fail
  go_step3
  by_cases hid : an = need
  · have d1 : ((an : Int) == (need : Int)) = true := by simp; omega
    have HID := Lib.hid hid
    clear hid
    go_wp2_with fail
    (try rw [Exit.noGoto_ret])
    go_ret
    refine ⟨true, rfl, OA.out.mono fun _ _ e => e.elim, fun _ => ?_, fun e => by cases e⟩
    exact .idle _ _ ((needs_idle (s := (done, st)) HN.out).1 (by rw [← HAN.out]; exact HID.out))
  · have d1 : ((an : Int) == (need : Int)) = false := by simp; omega
    have HID : Hid (¬ ∀ k p, l[k]? = some p → done.testBit k = false → p.til < 0) := Lib.hid fun h => hid (by rw [HAN.out]; exact (needs_idle (s := (done, st)) HN.out).2 h)
    clear hid
    obtain ⟨cv, stp, w1, hat, hwc, hlk, hme, hlk1, hg1, hes⟩ := own_entry laid84 keyed84 (w := wa.drew) OWN.out.drew under81 Try.underlying3 zero3 (by have := HB.out; unfold maxLen; omega) (key_st HS.out)
    obtain ⟨fs, hfs⟩ : ∃ fs, fs = f (done, st) := ⟨_, rfl⟩
    have hcv : cv = (fs : Int) := by
      have := CNT.out.at_ (done, st) HS.out
      rw [hat] at this
      injection this with this
      injection this with _ this
      rw [this, hfs]
    subst hcv
    have hfn : fs ≤ n := by rw [hfs]; exact CNT.out.le _
    obtain ⟨nx, hnx⟩ : ∃ nx, nx = fs + 1 := ⟨_, rfl⟩
    have hx : wrap64 ((fs : Int) + 1) = (nx : Int) := by rw [IntWalk.wrap64_in _ (by have := HB.out; omega), hnx]; rfl
    obtain ⟨w3, hes1, own3, hg3⟩ := hes (nx : Int) (WalkArith.wf_i64 (by have := HB.out; omega))
    have o1 : Only (fun k => k = S) wa w1 := (Only.refl (fun k => k = S) wa).drew.grown hg1 fun k hk => by injection hk with hk; exact hk.symm
    have o3 : Only (fun k => k = S) wa w3 := (Only.refl (fun k => k = S) wa).drew.grown hg3 fun k hk => by injection hk with hk; exact hk.symm
    have C1 := CC.out.kept o1 HCS.out
    have C3 := CC.out.kept o3 HCS.out
    have E1 := EA.out.only o1
    have E3 := EA.out.only o3
    have a0 := C1.is 0 _ rfl
    have a1 := C1.is 1 _ rfl
    have a2 := C1.is 2 _ rfl
    have asb := E1.sb
    have b0 := C3.is 0 _ rfl
    have b1 := C3.is 1 _ rfl
    have b2 := C3.is 2 _ rfl
    have bsb := E3.sb
    have blb := E3.lb
    have CNT3 : Hid (Cnt (D.put (sk (done, st)) (.lit (.int .i64 (nx : Int)))) (bump f (done, st)) (n + 1)) := Lib.hid (by
      have := CNT.out.bump OWN.out.isMap HS.out
      rw [← hfs, ← hnx] at this
      exact this)
    obtain ⟨c3, hlk3, hat3, _⟩ := own3.lookup_int keyed84 under81 Try.underlying3 (zero3 w3) (key_st HS.out)
    have hc3 : c3 = (nx : Int) := by
      rw [atKey_put_same OWN.out.isMap (by trivial)] at hat3
      injection hat3 with hat3
      injection hat3 with _ hat3
      exact hat3.symm
    subst hc3
    have OWN3 := Lib.hid own3
    have C3H := Lib.hid C3
    have E3H := Lib.hid E3
    have O3 : Hid (Only (fun k => k = S) w w3) := Lib.hid ((OA.out.mono fun _ _ e => e.elim).trans o3)
    have HFS := Lib.hid (And.intro hfs (And.intro hnx hfn))
    unfold stV at hlk hme hlk1 hlk3
    simp only at hlk hme hlk1 hlk3
    clear hat hwc hes hg1 own3 hg3 o1 o3 C1 C3 E1 E3 hat3 hfs hnx hfn
    go_wp2_with fail
    go_region
    have HMS : Hid (∀ t, StOk t → 0 < bump f (done, st) t → 0 < f t ∨ t = (done, st)) := Lib.hid fun t _ h => by
      unfold bump at h
      split at h
      · next e => exact .inr e
      · exact .inl h
    by_cases h0 : fs = 0
    · have d2 : decide ((1 : Int) < (nx : Int)) = false := by rw [decide_eq_false_iff_not]; have := HFS.out.2.1; omega
      have d2' : ¬ (1 : Int) < (nx : Int) := by have := HFS.out.2.1; omega
      have H0 := Lib.hid h0
      have L0 : Hid (LkIn w w3 NB SB LB FB S need (.slice la ln lc) l (done, st) C n f 0 (n + 1) (D.put (sk (done, st)) (.lit (.int .i64 (nx : Int)))) (bump f (done, st))) := Lib.hid
        ⟨O3.out, E3H.out, C3H.out, HCW.out, OWN3.out, CNT3.out, by omega, fun t ht h => by
          rcases HMS.out t ht h with e | e
          · exact .inl e
          · exact .inr (.inl e), fun k o st' hk => by omega⟩
      clear h0 hlk hme hlk1 hx hes1 a0 a1 a2 asb hband d1 c0 c1 c2 enb esb elb ewa eC
      go_wp2_with fail
      go_step3
      go_wp2_with fail
      go_loopg [34] ln (fun g i wr => ∃ (k ni : Nat) (Di : DataW Unit) (fi : St → Nat), k ≤ ln ∧ g = ln - k ∧ i = .int .i64 (k : Int) ∧ Hid (LkIn w wr NB SB LB FB S need (.slice la ln lc) l (done, st) C n f k ni Di fi))
      case atStart => exact ⟨0, n + 1, _, _, by omega, by omega, rfl, L0⟩
      case round =>
        clear L0 b0 b1 b2 bsb blb hlk3 d2 d2'
        obtain ⟨k, ni, Di, fi, hk, rfl, rfl, HI⟩ := hrel
        by_cases hlt : k < ln
        · have hj : k < l.length := by have := HLN.out.1; omega
          obtain ⟨x, hx⟩ : ∃ x, x = l[k] := ⟨_, rfl⟩
          have hx' : l[k]? = some x := by rw [hx]; exact List.getElem?_eq_getElem hj
          have hrow := HI.out.env.row
          obtain ⟨g, off, c, e, hgl, hcell⟩ := hrow.at_ hj
          injection e with e1 e2 e3
          subst e1 e3
          rw [← hx] at hcell
          have HX := Lib.hid hx'
          have HLT := Lib.hid hlt
          obtain ⟨x0, x1, x2, x3, ⟨x4, x5, x6, x7, x8⟩, ⟨x9, x10, x11⟩⟩ := x
          have r0 := hcell 0 _ rfl
          have r1 := hcell 1 _ rfl
          have r2 := hcell 2 _ rfl
          have r3 := hcell 3 _ rfl
          have r4 := hcell 4 _ rfl
          have r5 := hcell 5 _ rfl
          have r6 := hcell 6 _ rfl
          have r7 := hcell 7 _ rfl
          have r8 := hcell 8 _ rfl
          have r9 := hcell 9 _ rfl
          have r10 := hcell 10 _ rfl
          have r11 := hcell 11 _ rfl
          rw [Nat.add_zero] at r0
          simp only at r0 r1 r2 r3 r4 r5 r6 r7 r8 r9 r10 r11
          have i0 : (0 : Int) ≤ (k : Int) := by omega
          have i1 : (k : Int) < (ln : Int) := by omega
          obtain ⟨O, hO⟩ : ∃ O, O = wr.heap.size := ⟨_, rfl⟩
          obtain ⟨w4, hw4⟩ : ∃ w4, w4 = wr.alloc (.cells #[.int .i64 x0, .int .i64 x1, .int .i64 x2, .int .i64 x3, .int .u8 x4, .string x5, .string x6, .string x7, .bool x8, .int .u8 x9, .bool x10, .string x11] 39) := ⟨_, rfl⟩
          have o4 : Only None' wr w4 := by rw [hw4]; exact (Only.refl None' wr).alloc _
          have cO : CellsR w4 O [.int .i64 x0, .int .i64 x1, .int .i64 x2, .int .i64 x3, .int .u8 x4, .string x5, .string x6, .string x7, .bool x8, .int .u8 x9, .bool x10, .string x11] := by rw [hw4, hO]; exact cells_new wr [.int .i64 x0, .int .i64 x1, .int .i64 x2, .int .i64 x3, .int .u8 x4, .string x5, .string x6, .string x7, .bool x8, .int .u8 x9, .bool x10, .string x11] 39
          have HI4 := Lib.hid (HI.out.new_ o4)
          have HCO := Lib.hid cO
          have q0 := HI4.out.cell.is 0 _ rfl
          have q1 := HI4.out.cell.is 1 _ rfl
          have q2 := HI4.out.cell.is 2 _ rfl
          have qlb := HI4.out.env.lb
          have ew4 := hw4.symm
          have eO := hO.symm
          obtain ⟨p2, hp2⟩ : ∃ p2, p2 = 2 ^ k := ⟨_, rfl⟩
          have hk14 : k < 14 := by have := HLN.out; omega
          have hsh : wrap64 ((2 : Int) ^ k) = (p2 : Int) := by rw [hp2]; exact shl_small hk14
          obtain ⟨qa, hqa⟩ : ∃ qa, qa = done &&& p2 := ⟨_, rfl⟩
          have hd14 : done < 16384 := HS.out.1
          have hp14 : p2 < 16384 := by rw [hp2]; exact two_pow_small hk14
          have hba : bits .and .i64 (done : Int) (p2 : Int) = (qa : Int) := by rw [hqa]; exact bits_and_i64 _ _ (by omega) (by omega)
          have i14 : (k : Int) < 64 := by omega
          have HP2 := Lib.hid (And.intro hp2 (And.intro hqa (And.intro hd14 hp14)))
          clear hx hx' hrow e2 hgl hcell o4 cO hw4 hO hj hk14 hd14 hp14 hlt
          by_cases hbit : done.testBit k = true
          · as_aux_lemma =>
            have hq : qa ≠ 0 := fun e => by
              have h := (and_bit done k).1 (by rw [← HP2.out.1, ← HP2.out.2.1]; exact e)
              rw [h] at hbit; cases hbit
            have dq : ((qa : Int) == 0) = false := by simp; omega
            have dq2 : ((qa : Int) != 0) = true := by simp; omega
            have HBIT := Lib.hid hbit
            clear hq hbit hqa hp2
            go_wp2_with fail
            go_quiet (fail)
            go_wp2_with fail
            go_roundg (ln - (k + 1))
            case measure => have := HLT.out; omega
            case rel => exact ⟨k + 1, ni, Di, fi, by have := HLT.out; omega, rfl, (by first | rfl | exact next_int (by have := HLT.out; have := HLN.out; omega)), Lib.hid ((HI4.out.new_ ((Only.refl None' w4).drewN _)).skip fun o st' ht _ => by have := ht.2.1; simp only at this; rw [HBIT.out] at this; cases this)⟩
          · have hbf : done.testBit k = false := by simpa using hbit
            have hq : qa = 0 := by rw [hqa, hp2]; exact (and_bit done k).2 hbf
            have HBIT := Lib.hid hbf
            subst hq
            clear hbit hbf hqa hp2
            go_wp2_with fail
            go_quiet (fail)
            go_wp2_with fail
            go_loopg [47] ln (fun g j wy => ∃ (jj : Nat), jj ≤ ln ∧ g = ln - jj ∧ j = .int .i64 (jj : Int) ∧ Hid (∀ m p, m < jj → l[m]? = some p → done.testBit m = false → p.til < 0 ∨ x2 ≤ p.til) ∧ Hid (Only None' w4 wy))
            case atStart => exact ⟨0, by omega, by omega, rfl, Lib.hid (fun m p hm => by omega), Lib.hid ((Only.refl None' w4).drewN _)⟩
            case round =>
              obtain ⟨j, hjl, rfl, rfl, HQ, HW⟩ := hrel
              rename World => wy
              have HI5 := Lib.hid (HI4.out.new_ HW.out)
              have HCO5 := Lib.hid (HCO.out.kept HW.out fun e => e)
              clear r0 r1 r2 r3 r4 r5 r6 r7 r8 r9 r10 r11 ew4 eO q0 q1 q2 qlb i0 i1 hsh hba i14
              by_cases hlj : j < ln
              · have hj : j < l.length := by have := HLN.out.1; omega
                obtain ⟨y, hy⟩ : ∃ y, y = l[j] := ⟨_, rfl⟩
                have hy' : l[j]? = some y := by rw [hy]; exact List.getElem?_eq_getElem hj
                have hrow := HI5.out.env.row
                obtain ⟨g2, off2, c2', e, hgl, hcell⟩ := hrow.at_ hj
                injection e with e1 e2 e3
                injection e1 with e1
                injection e1 with e1 e4
                subst e1 e3 e4
                rw [← hy] at hcell
                have HY := Lib.hid hy'
                have HLJ := Lib.hid hlj
                obtain ⟨y0, y1, y2, y3, ⟨y4, y5, y6, y7, y8⟩, ⟨y9, y10, y11⟩⟩ := y
                have r0 := hcell 0 _ rfl
                have r1 := hcell 1 _ rfl
                have r2 := hcell 2 _ rfl
                have r3 := hcell 3 _ rfl
                have r4 := hcell 4 _ rfl
                have r5 := hcell 5 _ rfl
                have r6 := hcell 6 _ rfl
                have r7 := hcell 7 _ rfl
                have r8 := hcell 8 _ rfl
                have r9 := hcell 9 _ rfl
                have r10 := hcell 10 _ rfl
                have r11 := hcell 11 _ rfl
                rw [Nat.add_zero] at r0
                simp only at r0 r1 r2 r3 r4 r5 r6 r7 r8 r9 r10 r11
                have i0 : (0 : Int) ≤ (j : Int) := by omega
                have i1 : (j : Int) < (ln : Int) := by omega
                obtain ⟨O2, hO2⟩ : ∃ O2, O2 = wy.heap.size := ⟨_, rfl⟩
                obtain ⟨w5, hw5⟩ : ∃ w5, w5 = wy.alloc (.cells #[.int .i64 y0, .int .i64 y1, .int .i64 y2, .int .i64 y3, .int .u8 y4, .string y5, .string y6, .string y7, .bool y8, .int .u8 y9, .bool y10, .string y11] 39) := ⟨_, rfl⟩
                have o5 : Only None' wy w5 := by rw [hw5]; exact (Only.refl None' wy).alloc _
                have cO2 : CellsR w5 O2 [.int .i64 y0, .int .i64 y1, .int .i64 y2, .int .i64 y3, .int .u8 y4, .string y5, .string y6, .string y7, .bool y8, .int .u8 y9, .bool y10, .string y11] := by rw [hw5, hO2]; exact cells_new wy [.int .i64 y0, .int .i64 y1, .int .i64 y2, .int .i64 y3, .int .u8 y4, .string y5, .string y6, .string y7, .bool y8, .int .u8 y9, .bool y10, .string y11] 39
                have W5 := Lib.hid (HW.out.trans o5)
                have q0 := (HI5.out.cell.kept o5 fun e => e).is 0 _ rfl
                have t2 := (HCO5.out.kept o5 fun e => e).is 2 _ rfl
                have s3 := cO2.is 3 _ rfl
                have ew5 := hw5.symm
                have eO2 := hO2.symm
                obtain ⟨pj, hpj⟩ : ∃ pj, pj = 2 ^ j := ⟨_, rfl⟩
                have hj14 : j < 14 := by have := HLN.out; omega
                have hsh : wrap64 ((2 : Int) ^ j) = (pj : Int) := by rw [hpj]; exact shl_small hj14
                obtain ⟨qj, hqj⟩ : ∃ qj, qj = done &&& pj := ⟨_, rfl⟩
                have hpj14 : pj < 16384 := by rw [hpj]; exact two_pow_small hj14
                have hba : bits .and .i64 (done : Int) (pj : Int) = (qj : Int) := by rw [hqj]; exact bits_and_i64 _ _ (by have := HP2.out.2.2.1; omega) (by omega)
                have i14 : (j : Int) < 64 := by omega
                have hand : (qj = 0) ↔ done.testBit j = false := by rw [hqj, hpj]; exact and_bit done j
                have HAND := Lib.hid hand
                clear hy hy' hrow e2 hgl hcell o5 cO2 hw5 hO2 hj hj14 hpj14 hlj hpj hqj hand
                by_cases hq0 : qj = 0
                · have dq : ((qj : Int) == 0) = true := by simp; omega
                  have HBJ := Lib.hid (HAND.out.1 hq0)
                  clear hq0
                  by_cases hy3 : y3 < 0
                  · as_aux_lemma =>
                    have dy : decide ((0 : Int) ≤ y3) = false := by rw [decide_eq_false_iff_not]; omega
                    have dy' : ¬ (0 : Int) ≤ y3 := by omega
                    have HY3 := Lib.hid hy3
                    clear hy3
                    go_wp2_with fail
                    go_quiet (fail)
                    go_wp2_with fail
                    go_roundg (ln - (j + 1))
                    case measure => have := HLJ.out; omega
                    case rel => exact ⟨j + 1, by have := HLJ.out; omega, rfl, (by first | rfl | exact next_int (by have := HLJ.out; have := HLN.out; omega)), Lib.hid (by
                      intro m p hm hp hbm
                      by_cases hmj : m = j
                      · subst hmj
                        rw [HY.out] at hp
                        injection hp with hp
                        subst hp
                        exact .inl HY3.out
                      · exact HQ.out m p (by omega) hp hbm), Lib.hid (W5.out.drewN _)⟩
                  · have dy : decide ((0 : Int) ≤ y3) = true := by rw [decide_eq_true_eq]; omega
                    have dy' : (0 : Int) ≤ y3 := by omega
                    by_cases hlt2 : y3 < x2
                    · as_aux_lemma =>
                      have dz : decide (y3 < x2) = true := decide_eq_true hlt2
                      have HLT2 := Lib.hid (And.intro hlt2 dy')
                      clear hy3
                      go_wp2_with fail
                      go_quiet (fail)
                      go_wp2_with fail
                      go_roundg (ln - (k + 1))
                      case measure => have := HLT.out; omega
                      case rel => exact ⟨k + 1, ni, Di, fi, by have := HLT.out; omega, rfl, (by first | rfl | exact next_int (by have := HLT.out; have := HLN.out; omega)), Lib.hid ((HI4.out.new_ (W5.out.drewN _)).skip fun o st' ht _ => by
                        have he := ht.1
                        rw [HX.out] at he
                        injection he with he
                        subst he
                        have := ht.2.2 j _ HY.out HBJ.out
                        have := HLT2.out
                        simp only at *
                        omega)⟩
                    · as_aux_lemma =>
                      have dz : decide (y3 < x2) = false := decide_eq_false hlt2
                      have HLT2 : Hid (x2 ≤ y3) := Lib.hid (by omega)
                      have hle : x2 ≤ y3 := by omega
                      clear hy3 hlt2
                      go_wp2_with fail
                      go_quiet (fail)
                      go_wp2_with fail
                      go_roundg (ln - (j + 1))
                      case measure => have := HLJ.out; omega
                      case rel => exact ⟨j + 1, by have := HLJ.out; omega, rfl, (by first | rfl | exact next_int (by have := HLJ.out; have := HLN.out; omega)), Lib.hid (by
                        intro m p hm hp hbm
                        by_cases hmj : m = j
                        · subst hmj
                          rw [HY.out] at hp
                          injection hp with hp
                          subst hp
                          exact .inr HLT2.out
                        · exact HQ.out m p (by omega) hp hbm), Lib.hid (W5.out.drewN _)⟩
                · as_aux_lemma =>
                  have dq : ((qj : Int) == 0) = false := by simp; omega
                  have HBJ : Hid (done.testBit j ≠ false) := Lib.hid fun e => hq0 (HAND.out.2 e)
                  clear hq0
                  go_wp2_with fail
                  go_quiet (fail)
                  go_wp2_with fail
                  go_roundg (ln - (j + 1))
                  case measure => have := HLJ.out; omega
                  case rel => exact ⟨j + 1, by have := HLJ.out; omega, rfl, (by first | rfl | exact next_int (by have := HLJ.out; have := HLN.out; omega)), Lib.hid (by
                    intro m p hm hp hbm
                    by_cases hmj : m = j
                    · subst hmj
                      rw [HY.out] at hp
                      injection hp with hp
                      subst hp
                      exact (HBJ.out hbm).elim
                    · exact HQ.out m p (by omega) hp hbm), Lib.hid (W5.out.drewN _)⟩
              · obtain rfl : j = ln := by omega
                have HTURN : Hid (Turn l (done, st) k ⟨x0, x1, x2, x3, ⟨x4, x5, x6, x7, x8⟩, ⟨x9, x10, x11⟩⟩) := Lib.hid ⟨HX.out, HBIT.out, fun m p hp hb => HQ.out m p (by have h1 := (List.getElem?_eq_some_iff.1 hp).1; have := HLN.out.1; omega) hp hb⟩
                clear HQ hlj
                have HI5 := Lib.hid (HI4.out.new_ HW.out)
                have HCO5 := Lib.hid (HCO.out.kept HW.out fun e => e)
                have y0 := HI5.out.cell.is 0 _ rfl
                have y1 := HI5.out.cell.is 1 _ rfl
                have y2 := HI5.out.cell.is 2 _ rfl
                have t4 := HCO5.out.is 4 _ rfl
                have t5 := HCO5.out.is 5 _ rfl
                have t6 := HCO5.out.is 6 _ rfl
                have t7 := HCO5.out.is 7 _ rfl
                have t8 := HCO5.out.is 8 _ rfl
                cases st with
                | none =>
                  have HDO := Lib.hid (do_any (PRow.nil wy) (by decide) ⟨x4, x5, x6, x7, x8⟩ (fun _ => ins_end (ps := []) (by decide)))
                  have HFS0 : Hid (findP x5 ([] : List Pr) = none) := Lib.hid rfl
                  unfold Op5.v at HDO
                  simp only at HDO
                  go_wp2_with fail
                  refine HDO.out.mono ?_
                  rintro e w6 ⟨o6, ⟨hc0, v6, he6, hn6⟩ | ⟨hc0, he6⟩⟩
                  · have HI6 := Lib.hid (HI5.out.new_ o6)
                    have HCO6 := Lib.hid (HCO5.out.kept o6 fun e => e)
                    clear y0 y1 y2 t4 t5 t6 t7 t8
                    have HC0 := Lib.hid hc0
                    obtain ⟨r, hr⟩ : ∃ r, r = ((⟨x4, x5, x6, x7, x8⟩ : Op5).does none).2 := ⟨_, rfl⟩
                    obtain ⟨st2, hst2⟩ : ∃ st2, st2 = ((⟨x4, x5, x6, x7, x8⟩ : Op5).does none).1 := ⟨_, rfl⟩
                    have HRS := Lib.hid hr
                    have HST2 := Lib.hid hst2
                    rw [HFS0.out, ← hr] at he6
                    subst he6
                    clear hr hst2 hc0
                    obtain ⟨rk, rf, rv⟩ := r
                    unfold Rs.v
                    simp only
                    obtain ⟨Z, hZ⟩ : ∃ Z, Z = w6.heap.size := ⟨_, rfl⟩
                    obtain ⟨w8, hw8⟩ : ∃ w8, w8 = w6.alloc (.cells #[.int .u8 rk, .bool rf, .string rv] 29) := ⟨_, rfl⟩
                    have o8 : Only None' w6 w8 := by rw [hw8]; exact (Only.refl None' w6).alloc _
                    have cZ : CellsR w8 Z [.int .u8 rk, .bool rf, .string rv] := by rw [hw8, hZ]; exact cells_new w6 [.int .u8 rk, .bool rf, .string rv] 29
                    have HI8 := Lib.hid (HI6.out.new_ o8)
                    have HNS : Hid (C ≠ S) := Lib.hid HCS.out
                    have HCO8 := Lib.hid (HCO6.out.kept o8 fun e => e)
                    have N8 : Hid (PNew wy w8 v6 (doP ([] : List Pr) ⟨x4, x5, x6, x7, x8⟩)) := Lib.hid ⟨hn6.row.new_ o8, hn6.fresh, hn6.only.trans o8⟩
                    have s3 := HCO8.out.is 3 _ rfl
                    have s9 := HCO8.out.is 9 _ rfl
                    have s10 := HCO8.out.is 10 _ rfl
                    have s11 := HCO8.out.is 11 _ rfl
                    have z0 := cZ.is 0 _ rfl
                    have z1 := cZ.is 1 _ rfl
                    have z2 := cZ.is 2 _ rfl
                    have ew8 := hw8.symm
                    have eZ := hZ.symm
                    clear o8 cZ hw8 hZ hn6 o6
                    by_cases hx3 : x3 < 0
                    · as_aux_lemma =>
                      have dx : decide ((0 : Int) ≤ x3) = false := by rw [decide_eq_false_iff_not]; omega
                      have dx' : ¬ (0 : Int) ≤ x3 := by omega
                      have HGO : Hid ((⟨x0, x1, x2, x3, ⟨x4, x5, x6, x7, x8⟩, ⟨x9, x10, x11⟩⟩ : Opn).goes none = some st2) := Lib.hid (by unfold Opn.goes; rw [if_pos ⟨HC0.out, .inl hx3⟩, ← HST2.out])
                      clear hx3
                      have HFP : Hid (findP x5 (doP ([] : List Pr) ⟨x4, x5, x6, x7, x8⟩) = st2) := Lib.hid (by rw [findP_do, if_pos rfl, HFS0.out, ← HST2.out])
                      have hfa := find_any N8.out.row (Nat.le_trans (doP_len ([] : List Pr) ⟨x4, x5, x6, x7, x8⟩) (by decide)) x5
                      rw [HFP.out] at hfa
                      have HFA := Lib.hid hfa
                      have p5 := HCO8.out.is 5 _ rfl
                      clear hfa
                      go_wp2_with fail
                      refine HFA.out.mono ?_
                      rintro e w9 ⟨rfl, o9⟩
                      have HI9 := Lib.hid (HI8.out.new_ o9)
                      have z0 := HI9.out.cell.is 0 _ rfl
                      obtain ⟨dn, hdn⟩ : ∃ dn, dn = done ||| 2 ^ k := ⟨_, rfl⟩
                      have hsh : wrap64 ((2 : Int) ^ k) = (p2 : Int) := by rw [HP2.out.1]; exact shl_small (by have := HLN.out; have := HLT.out; omega)
                      have hbo : bits .or .i64 (done : Int) (p2 : Int) = (dn : Int) := by rw [hdn, HP2.out.1]; exact bits_or_i64 _ _ (by have := HP2.out.2.2.1; omega) (by have := HP2.out.2.2.2; rw [← HP2.out.1]; omega)
                      have hch := fun (wq : World) (oq : Only None' w9 wq) => (HI9.out.new_ oq).child HS.out (by have := HLN.out; omega) HTURN.out HGO.out HB.out HM.out HIH.out
                      simp only at hch
                      rw [← hdn] at hch
                      unfold stV at hch
                      have HSW : Hid (IntKind.i64.wrap ((2 : Int) ^ k) = (p2 : Int)) := Lib.hid (by rw [IntWalk.i64_left]; exact hsh)
                      have HBO := Lib.hid hbo
                      have HCH0 := Lib.hid (hch w9 (Only.refl _ _))
                      have HCH1 := Lib.hid (hch w9.drew (Only.refl _ _).drew)
                      have HCHN := Lib.hid (fun q => hch (w9.drewN q) ((Only.refl _ _).drewN q))
                      have HE9 := Lib.hid (And.intro HI9.out.env.fb (HI9.out.cell.is 0 _ rfl))
                      have i14 : (k : Int) < 64 := by have := HLN.out; have := HLT.out; omega
                      have i0 : (0 : Int) ≤ (k : Int) := by omega
                      clear hdn o9 hch
                      go_wp2_with fail
                      go_region_held3 (fun w' => w'.cell? ⟨FB, 0, none⟩ = some (.func (.func 29) #[] #[.pointer (some ⟨NB, 0, none⟩), .pointer (some ⟨SB, 0, none⟩), .pointer (some ⟨LB, 0, none⟩), .pointer (some ⟨FB, 0, none⟩)]) ∧ w'.cell? ⟨C, 0, none⟩ = some (.int .i64 (done : Int)))
                        (first | exact HE10.out | exact HE9.out)
                        (first | (go_at_call 29; rw [HSW.out, HBO.out]; (first | with_reducible refine HCH0.out.mono ?_ | with_reducible refine HCH1.out.mono ?_ | with_reducible refine (HCHN.out _).mono ?_); rintro e w10 ⟨b, rfl, o10, hb1, hb2⟩; have O10 : Hid (Only (fun k => k = S) w9 w10) := Lib.hid (by first | exact o10 | exact ((Only.refl (fun k => k = S) w9).drew).trans o10 | exact ((Only.refl (fun k => k = S) w9).drewN _).trans o10); have HB1 := Lib.hid hb1; have HB2 := Lib.hid hb2; have HE10 := Lib.hid (And.intro (HI9.out.env.only O10.out).fb ((HI9.out.cell.kept O10.out HNS.out).is 0 _ rfl)); clear o10 hb1 hb2))
                      all_goals (
                        cases b with
                        | true =>
                          have HM1 := Lib.hid (HB1.out rfl)
                          clear HB1 HB2
                          go_wp2_with fail
                          (try rw [Exit.noGoto_ret])
                          go_ret
                          exact ⟨true, rfl, HI9.out.only.trans O10.out, fun _ => HM1.out, fun e => by cases e⟩
                        | false =>
                          obtain ⟨n9, D9, f9, h9⟩ := HB2.out rfl
                          have H9 := Lib.hid h9
                          clear h9 HB1 HB2
                          go_wp2_with fail
                          go_roundg (j - (k + 1))
                          case measure => have := HLT.out; omega
                          case rel => exact ⟨k + 1, n9, D9, f9, by have := HLT.out; omega, rfl, (by first | rfl | exact next_int (by have := HLT.out; have := HLN.out; omega)), H9⟩)
                    · have dx : decide ((0 : Int) ≤ x3) = true := by rw [decide_eq_true_eq]; omega
                      have dx' : (0 : Int) ≤ x3 := by omega
                      have HX3 := Lib.hid hx3
                      clear hx3
                      by_cases h9 : rk = x9
                      · have b9 : (rk == x9) = true := by simpa using h9
                        by_cases h10 : rf = x10
                        · have b10 : (rf == x10) = true := by simpa using h10
                          by_cases h11 : rv = x11
                          · as_aux_lemma =>
                            have b11 : (rv.toList == x11.toList) = true := by rw [same_str, decide_eq_true_eq]; exact h11
                            have HGO : Hid ((⟨x0, x1, x2, x3, ⟨x4, x5, x6, x7, x8⟩, ⟨x9, x10, x11⟩⟩ : Opn).goes none = some st2) := Lib.hid (by unfold Opn.goes; rw [if_pos ⟨HC0.out, .inr (by rw [← HRS.out, h9, h10, h11])⟩, ← HST2.out])
                            clear h9 h10 h11
                            have HFP : Hid (findP x5 (doP ([] : List Pr) ⟨x4, x5, x6, x7, x8⟩) = st2) := Lib.hid (by rw [findP_do, if_pos rfl, HFS0.out, ← HST2.out])
                            have hfa := find_any N8.out.row (Nat.le_trans (doP_len ([] : List Pr) ⟨x4, x5, x6, x7, x8⟩) (by decide)) x5
                            rw [HFP.out] at hfa
                            have HFA := Lib.hid hfa
                            have p5 := HCO8.out.is 5 _ rfl
                            clear hfa
                            go_wp2_with fail
                            refine HFA.out.mono ?_
                            rintro e w9 ⟨rfl, o9⟩
                            have HI9 := Lib.hid (HI8.out.new_ o9)
                            have z0 := HI9.out.cell.is 0 _ rfl
                            obtain ⟨dn, hdn⟩ : ∃ dn, dn = done ||| 2 ^ k := ⟨_, rfl⟩
                            have hsh : wrap64 ((2 : Int) ^ k) = (p2 : Int) := by rw [HP2.out.1]; exact shl_small (by have := HLN.out; have := HLT.out; omega)
                            have hbo : bits .or .i64 (done : Int) (p2 : Int) = (dn : Int) := by rw [hdn, HP2.out.1]; exact bits_or_i64 _ _ (by have := HP2.out.2.2.1; omega) (by have := HP2.out.2.2.2; rw [← HP2.out.1]; omega)
                            have hch := fun (wq : World) (oq : Only None' w9 wq) => (HI9.out.new_ oq).child HS.out (by have := HLN.out; omega) HTURN.out HGO.out HB.out HM.out HIH.out
                            simp only at hch
                            rw [← hdn] at hch
                            unfold stV at hch
                            have HSW : Hid (IntKind.i64.wrap ((2 : Int) ^ k) = (p2 : Int)) := Lib.hid (by rw [IntWalk.i64_left]; exact hsh)
                            have HBO := Lib.hid hbo
                            have HCH0 := Lib.hid (hch w9 (Only.refl _ _))
                            have HCH1 := Lib.hid (hch w9.drew (Only.refl _ _).drew)
                            have HCHN := Lib.hid (fun q => hch (w9.drewN q) ((Only.refl _ _).drewN q))
                            have HE9 := Lib.hid (And.intro HI9.out.env.fb (HI9.out.cell.is 0 _ rfl))
                            have i14 : (k : Int) < 64 := by have := HLN.out; have := HLT.out; omega
                            have i0 : (0 : Int) ≤ (k : Int) := by omega
                            clear hdn o9 hch
                            go_wp2_with fail
                            go_region_held3 (fun w' => w'.cell? ⟨FB, 0, none⟩ = some (.func (.func 29) #[] #[.pointer (some ⟨NB, 0, none⟩), .pointer (some ⟨SB, 0, none⟩), .pointer (some ⟨LB, 0, none⟩), .pointer (some ⟨FB, 0, none⟩)]) ∧ w'.cell? ⟨C, 0, none⟩ = some (.int .i64 (done : Int)))
                              (first | exact HE10.out | exact HE9.out)
                              (first | (go_at_call 29; rw [HSW.out, HBO.out]; (first | with_reducible refine HCH0.out.mono ?_ | with_reducible refine HCH1.out.mono ?_ | with_reducible refine (HCHN.out _).mono ?_); rintro e w10 ⟨b, rfl, o10, hb1, hb2⟩; have O10 : Hid (Only (fun k => k = S) w9 w10) := Lib.hid (by first | exact o10 | exact ((Only.refl (fun k => k = S) w9).drew).trans o10 | exact ((Only.refl (fun k => k = S) w9).drewN _).trans o10); have HB1 := Lib.hid hb1; have HB2 := Lib.hid hb2; have HE10 := Lib.hid (And.intro (HI9.out.env.only O10.out).fb ((HI9.out.cell.kept O10.out HNS.out).is 0 _ rfl)); clear o10 hb1 hb2))
                            all_goals (
                              cases b with
                              | true =>
                                have HM1 := Lib.hid (HB1.out rfl)
                                clear HB1 HB2
                                go_wp2_with fail
                                (try rw [Exit.noGoto_ret])
                                go_ret
                                exact ⟨true, rfl, HI9.out.only.trans O10.out, fun _ => HM1.out, fun e => by cases e⟩
                              | false =>
                                obtain ⟨n9, D9, f9, h9⟩ := HB2.out rfl
                                have H9 := Lib.hid h9
                                clear h9 HB1 HB2
                                go_wp2_with fail
                                go_roundg (j - (k + 1))
                                case measure => have := HLT.out; omega
                                case rel => exact ⟨k + 1, n9, D9, f9, by have := HLT.out; omega, rfl, (by first | rfl | exact next_int (by have := HLT.out; have := HLN.out; omega)), H9⟩)
                          · as_aux_lemma =>
                            have b11 : (rv.toList == x11.toList) = false := by rw [same_str, decide_eq_false_iff_not]; exact h11
                            have HNOGO : Hid (∀ st', (⟨x0, x1, x2, x3, ⟨x4, x5, x6, x7, x8⟩, ⟨x9, x10, x11⟩⟩ : Opn).goes none = some st' → False) := Lib.hid (fun st' hg => by
                              unfold Opn.goes at hg
                              split at hg
                              · next hc => exact hc.2.elim (fun e => HX3.out e) (fun e => by rw [← HRS.out] at e; injection e with e1 e2 e3; exact h11 e3)
                              · cases hg)
                            clear h9 h10 h11
                            go_wp2_with fail
                            go_roundg (j - (k + 1))
                            case measure => have := HLT.out; omega
                            case rel => exact ⟨k + 1, ni, Di, fi, by have := HLT.out; omega, rfl, (by first | rfl | exact next_int (by have := HLT.out; have := HLN.out; omega)), Lib.hid ((HI8.out).skip fun o st' ht hg => by
                              have he := ht.1
                              rw [HX.out] at he
                              injection he with he
                              subst he
                              exact HNOGO.out st' hg)⟩
                        · as_aux_lemma =>
                          have b10 : (rf == x10) = false := by simpa using h10
                          have HNOGO : Hid (∀ st', (⟨x0, x1, x2, x3, ⟨x4, x5, x6, x7, x8⟩, ⟨x9, x10, x11⟩⟩ : Opn).goes none = some st' → False) := Lib.hid (fun st' hg => by
                            unfold Opn.goes at hg
                            split at hg
                            · next hc => exact hc.2.elim (fun e => HX3.out e) (fun e => by rw [← HRS.out] at e; injection e with e1 e2 e3; exact h10 e2)
                            · cases hg)
                          clear h9 h10
                          go_wp2_with fail
                          go_roundg (j - (k + 1))
                          case measure => have := HLT.out; omega
                          case rel => exact ⟨k + 1, ni, Di, fi, by have := HLT.out; omega, rfl, (by first | rfl | exact next_int (by have := HLT.out; have := HLN.out; omega)), Lib.hid ((HI8.out).skip fun o st' ht hg => by
                            have he := ht.1
                            rw [HX.out] at he
                            injection he with he
                            subst he
                            exact HNOGO.out st' hg)⟩
                      · as_aux_lemma =>
                        have b9 : (rk == x9) = false := by simpa using h9
                        have HNOGO : Hid (∀ st', (⟨x0, x1, x2, x3, ⟨x4, x5, x6, x7, x8⟩, ⟨x9, x10, x11⟩⟩ : Opn).goes none = some st' → False) := Lib.hid (fun st' hg => by
                          unfold Opn.goes at hg
                          split at hg
                          · next hc => exact hc.2.elim (fun e => HX3.out e) (fun e => by rw [← HRS.out] at e; injection e with e1 e2 e3; exact h9 e1)
                          · cases hg)
                        clear h9
                        go_wp2_with fail
                        go_roundg (j - (k + 1))
                        case measure => have := HLT.out; omega
                        case rel => exact ⟨k + 1, ni, Di, fi, by have := HLT.out; omega, rfl, (by first | rfl | exact next_int (by have := HLT.out; have := HLN.out; omega)), Lib.hid ((HI8.out).skip fun o st' ht hg => by
                          have he := ht.1
                          rw [HX.out] at he
                          injection he with he
                          subst he
                          exact HNOGO.out st' hg)⟩
                  · as_aux_lemma =>
                    have HI6 := Lib.hid (HI5.out.new_ o6)
                    have HCO6 := Lib.hid (HCO5.out.kept o6 fun e => e)
                    clear y0 y1 y2 t4 t5 t6 t7 t8
                    obtain ⟨cd, hcd⟩ : ∃ cd, cd = (⟨x4, x5, x6, x7, x8⟩ : Op5).code := ⟨_, rfl⟩
                    rw [← hcd] at he6
                    subst he6
                    have bc : (cd == 0) = false := by rw [hcd]; simpa using hc0
                    have bc2 : (cd != 0) = true := by rw [bne, bc]; rfl
                    have HNOGO : Hid (∀ st', (⟨x0, x1, x2, x3, ⟨x4, x5, x6, x7, x8⟩, ⟨x9, x10, x11⟩⟩ : Opn).goes none = some st' → False) := Lib.hid (fun st' hg => by
                      unfold Opn.goes at hg
                      split at hg
                      · next hc => exact hc0 hc.1
                      · cases hg)
                    clear hcd hc0 o6
                    unfold Rs.zero Rs.v
                    simp only
                    have s3 := HCO6.out.is 3 _ rfl
                    go_wp2_with fail
                    go_roundg (j - (k + 1))
                    case measure => have := HLT.out; omega
                    case rel => exact ⟨k + 1, ni, Di, fi, by have := HLT.out; omega, rfl, (by first | rfl | exact next_int (by have := HLT.out; have := HLN.out; omega)), Lib.hid ((HI6.out.new_ ((Only.refl None' _).alloc _)).skip fun o st' ht hg => by
                      have he := ht.1
                      rw [HX.out] at he
                      injection he with he
                      subst he
                      exact HNOGO.out st' hg)⟩
                | some v =>
                  obtain ⟨G, hG⟩ : ∃ G, G = wy.heap.size := ⟨_, rfl⟩
                  obtain ⟨wg, hwg⟩ : ∃ wg, wg = wy.alloc (.cells #[.string x5, .string v] 67) := ⟨_, rfl⟩
                  have og : Only None' wy wg := by rw [hwg]; exact (Only.refl None' wy).alloc _
                  have hrow : PRow wg (.slice (some ⟨G, 0, none⟩) 1 1) [(x5, v)] := ⟨by rw [hwg, hG]; simpa using vec_pair wy x5 v⟩
                  have HDO := Lib.hid (do_any hrow (by show 1 ≤ 100000; decide) ⟨x4, x5, x6, x7, x8⟩ (fun h => by simp [findP] at h))
                  have HFS0 : Hid (findP x5 [(x5, v)] = some v) := Lib.hid (by simp [findP])
                  have HIG := Lib.hid (HI5.out.new_ og)
                  have HCG := Lib.hid (HCO5.out.kept og fun e => e)
                  have u4 := HCG.out.is 4 _ rfl
                  have u5 := HCG.out.is 5 _ rfl
                  have u6 := HCG.out.is 6 _ rfl
                  have u7 := HCG.out.is 7 _ rfl
                  have u8 := HCG.out.is 8 _ rfl
                  have ewg := hwg.symm
                  have eG := hG.symm
                  clear og hrow hwg hG
                  unfold Op5.v at HDO
                  simp only at HDO
                  go_wp2_with fail
                  refine HDO.out.mono ?_
                  rintro e w6 ⟨o6, ⟨hc0, v6, he6, hn6⟩ | ⟨hc0, he6⟩⟩
                  · have HI6 := Lib.hid (HIG.out.new_ o6)
                    have HCO6 := Lib.hid (HCG.out.kept o6 fun e => e)
                    clear y0 y1 y2 t4 t5 t6 t7 t8 u4 u5 u6 u7 u8 ewg eG
                    have HC0 := Lib.hid hc0
                    obtain ⟨r, hr⟩ : ∃ r, r = ((⟨x4, x5, x6, x7, x8⟩ : Op5).does (some v)).2 := ⟨_, rfl⟩
                    obtain ⟨st2, hst2⟩ : ∃ st2, st2 = ((⟨x4, x5, x6, x7, x8⟩ : Op5).does (some v)).1 := ⟨_, rfl⟩
                    have HRS := Lib.hid hr
                    have HST2 := Lib.hid hst2
                    rw [HFS0.out, ← hr] at he6
                    subst he6
                    clear hr hst2 hc0
                    obtain ⟨rk, rf, rv⟩ := r
                    unfold Rs.v
                    simp only
                    obtain ⟨Z, hZ⟩ : ∃ Z, Z = w6.heap.size := ⟨_, rfl⟩
                    obtain ⟨w8, hw8⟩ : ∃ w8, w8 = w6.alloc (.cells #[.int .u8 rk, .bool rf, .string rv] 29) := ⟨_, rfl⟩
                    have o8 : Only None' w6 w8 := by rw [hw8]; exact (Only.refl None' w6).alloc _
                    have cZ : CellsR w8 Z [.int .u8 rk, .bool rf, .string rv] := by rw [hw8, hZ]; exact cells_new w6 [.int .u8 rk, .bool rf, .string rv] 29
                    have HI8 := Lib.hid (HI6.out.new_ o8)
                    have HNS : Hid (C ≠ S) := Lib.hid HCS.out
                    have HCO8 := Lib.hid (HCO6.out.kept o8 fun e => e)
                    have N8 : Hid (PNew wg w8 v6 (doP [(x5, v)] ⟨x4, x5, x6, x7, x8⟩)) := Lib.hid ⟨hn6.row.new_ o8, hn6.fresh, hn6.only.trans o8⟩
                    have s3 := HCO8.out.is 3 _ rfl
                    have s9 := HCO8.out.is 9 _ rfl
                    have s10 := HCO8.out.is 10 _ rfl
                    have s11 := HCO8.out.is 11 _ rfl
                    have z0 := cZ.is 0 _ rfl
                    have z1 := cZ.is 1 _ rfl
                    have z2 := cZ.is 2 _ rfl
                    have ew8 := hw8.symm
                    have eZ := hZ.symm
                    clear o8 cZ hw8 hZ hn6 o6
                    by_cases hx3 : x3 < 0
                    · as_aux_lemma =>
                      have dx : decide ((0 : Int) ≤ x3) = false := by rw [decide_eq_false_iff_not]; omega
                      have dx' : ¬ (0 : Int) ≤ x3 := by omega
                      have HGO : Hid ((⟨x0, x1, x2, x3, ⟨x4, x5, x6, x7, x8⟩, ⟨x9, x10, x11⟩⟩ : Opn).goes (some v) = some st2) := Lib.hid (by unfold Opn.goes; rw [if_pos ⟨HC0.out, .inl hx3⟩, ← HST2.out])
                      clear hx3
                      have HFP : Hid (findP x5 (doP [(x5, v)] ⟨x4, x5, x6, x7, x8⟩) = st2) := Lib.hid (by rw [findP_do, if_pos rfl, HFS0.out, ← HST2.out])
                      have hfa := find_any N8.out.row (Nat.le_trans (doP_len [(x5, v)] ⟨x4, x5, x6, x7, x8⟩) (by show 1 + 1 ≤ 100000; decide)) x5
                      rw [HFP.out] at hfa
                      have HFA := Lib.hid hfa
                      have p5 := HCO8.out.is 5 _ rfl
                      clear hfa
                      go_wp2_with fail
                      refine HFA.out.mono ?_
                      rintro e w9 ⟨rfl, o9⟩
                      have HI9 := Lib.hid (HI8.out.new_ o9)
                      have z0 := HI9.out.cell.is 0 _ rfl
                      obtain ⟨dn, hdn⟩ : ∃ dn, dn = done ||| 2 ^ k := ⟨_, rfl⟩
                      have hsh : wrap64 ((2 : Int) ^ k) = (p2 : Int) := by rw [HP2.out.1]; exact shl_small (by have := HLN.out; have := HLT.out; omega)
                      have hbo : bits .or .i64 (done : Int) (p2 : Int) = (dn : Int) := by rw [hdn, HP2.out.1]; exact bits_or_i64 _ _ (by have := HP2.out.2.2.1; omega) (by have := HP2.out.2.2.2; rw [← HP2.out.1]; omega)
                      have hch := fun (wq : World) (oq : Only None' w9 wq) => (HI9.out.new_ oq).child HS.out (by have := HLN.out; omega) HTURN.out HGO.out HB.out HM.out HIH.out
                      simp only at hch
                      rw [← hdn] at hch
                      unfold stV at hch
                      have HSW : Hid (IntKind.i64.wrap ((2 : Int) ^ k) = (p2 : Int)) := Lib.hid (by rw [IntWalk.i64_left]; exact hsh)
                      have HBO := Lib.hid hbo
                      have HCH0 := Lib.hid (hch w9 (Only.refl _ _))
                      have HCH1 := Lib.hid (hch w9.drew (Only.refl _ _).drew)
                      have HCHN := Lib.hid (fun q => hch (w9.drewN q) ((Only.refl _ _).drewN q))
                      have HE9 := Lib.hid (And.intro HI9.out.env.fb (HI9.out.cell.is 0 _ rfl))
                      have i14 : (k : Int) < 64 := by have := HLN.out; have := HLT.out; omega
                      have i0 : (0 : Int) ≤ (k : Int) := by omega
                      clear hdn o9 hch
                      go_wp2_with fail
                      go_region_held3 (fun w' => w'.cell? ⟨FB, 0, none⟩ = some (.func (.func 29) #[] #[.pointer (some ⟨NB, 0, none⟩), .pointer (some ⟨SB, 0, none⟩), .pointer (some ⟨LB, 0, none⟩), .pointer (some ⟨FB, 0, none⟩)]) ∧ w'.cell? ⟨C, 0, none⟩ = some (.int .i64 (done : Int)))
                        (first | exact HE10.out | exact HE9.out)
                        (first | (go_at_call 29; rw [HSW.out, HBO.out]; (first | with_reducible refine HCH0.out.mono ?_ | with_reducible refine HCH1.out.mono ?_ | with_reducible refine (HCHN.out _).mono ?_); rintro e w10 ⟨b, rfl, o10, hb1, hb2⟩; have O10 : Hid (Only (fun k => k = S) w9 w10) := Lib.hid (by first | exact o10 | exact ((Only.refl (fun k => k = S) w9).drew).trans o10 | exact ((Only.refl (fun k => k = S) w9).drewN _).trans o10); have HB1 := Lib.hid hb1; have HB2 := Lib.hid hb2; have HE10 := Lib.hid (And.intro (HI9.out.env.only O10.out).fb ((HI9.out.cell.kept O10.out HNS.out).is 0 _ rfl)); clear o10 hb1 hb2))
                      all_goals (
                        cases b with
                        | true =>
                          have HM1 := Lib.hid (HB1.out rfl)
                          clear HB1 HB2
                          go_wp2_with fail
                          (try rw [Exit.noGoto_ret])
                          go_ret
                          exact ⟨true, rfl, HI9.out.only.trans O10.out, fun _ => HM1.out, fun e => by cases e⟩
                        | false =>
                          obtain ⟨n9, D9, f9, h9⟩ := HB2.out rfl
                          have H9 := Lib.hid h9
                          clear h9 HB1 HB2
                          go_wp2_with fail
                          go_roundg (j - (k + 1))
                          case measure => have := HLT.out; omega
                          case rel => exact ⟨k + 1, n9, D9, f9, by have := HLT.out; omega, rfl, (by first | rfl | exact next_int (by have := HLT.out; have := HLN.out; omega)), H9⟩)
                    · have dx : decide ((0 : Int) ≤ x3) = true := by rw [decide_eq_true_eq]; omega
                      have dx' : (0 : Int) ≤ x3 := by omega
                      have HX3 := Lib.hid hx3
                      clear hx3
                      by_cases h9 : rk = x9
                      · have b9 : (rk == x9) = true := by simpa using h9
                        by_cases h10 : rf = x10
                        · have b10 : (rf == x10) = true := by simpa using h10
                          by_cases h11 : rv = x11
                          · as_aux_lemma =>
                            have b11 : (rv.toList == x11.toList) = true := by rw [same_str, decide_eq_true_eq]; exact h11
                            have HGO : Hid ((⟨x0, x1, x2, x3, ⟨x4, x5, x6, x7, x8⟩, ⟨x9, x10, x11⟩⟩ : Opn).goes (some v) = some st2) := Lib.hid (by unfold Opn.goes; rw [if_pos ⟨HC0.out, .inr (by rw [← HRS.out, h9, h10, h11])⟩, ← HST2.out])
                            clear h9 h10 h11
                            have HFP : Hid (findP x5 (doP [(x5, v)] ⟨x4, x5, x6, x7, x8⟩) = st2) := Lib.hid (by rw [findP_do, if_pos rfl, HFS0.out, ← HST2.out])
                            have hfa := find_any N8.out.row (Nat.le_trans (doP_len [(x5, v)] ⟨x4, x5, x6, x7, x8⟩) (by show 1 + 1 ≤ 100000; decide)) x5
                            rw [HFP.out] at hfa
                            have HFA := Lib.hid hfa
                            have p5 := HCO8.out.is 5 _ rfl
                            clear hfa
                            go_wp2_with fail
                            refine HFA.out.mono ?_
                            rintro e w9 ⟨rfl, o9⟩
                            have HI9 := Lib.hid (HI8.out.new_ o9)
                            have z0 := HI9.out.cell.is 0 _ rfl
                            obtain ⟨dn, hdn⟩ : ∃ dn, dn = done ||| 2 ^ k := ⟨_, rfl⟩
                            have hsh : wrap64 ((2 : Int) ^ k) = (p2 : Int) := by rw [HP2.out.1]; exact shl_small (by have := HLN.out; have := HLT.out; omega)
                            have hbo : bits .or .i64 (done : Int) (p2 : Int) = (dn : Int) := by rw [hdn, HP2.out.1]; exact bits_or_i64 _ _ (by have := HP2.out.2.2.1; omega) (by have := HP2.out.2.2.2; rw [← HP2.out.1]; omega)
                            have hch := fun (wq : World) (oq : Only None' w9 wq) => (HI9.out.new_ oq).child HS.out (by have := HLN.out; omega) HTURN.out HGO.out HB.out HM.out HIH.out
                            simp only at hch
                            rw [← hdn] at hch
                            unfold stV at hch
                            have HSW : Hid (IntKind.i64.wrap ((2 : Int) ^ k) = (p2 : Int)) := Lib.hid (by rw [IntWalk.i64_left]; exact hsh)
                            have HBO := Lib.hid hbo
                            have HCH0 := Lib.hid (hch w9 (Only.refl _ _))
                            have HCH1 := Lib.hid (hch w9.drew (Only.refl _ _).drew)
                            have HCHN := Lib.hid (fun q => hch (w9.drewN q) ((Only.refl _ _).drewN q))
                            have HE9 := Lib.hid (And.intro HI9.out.env.fb (HI9.out.cell.is 0 _ rfl))
                            have i14 : (k : Int) < 64 := by have := HLN.out; have := HLT.out; omega
                            have i0 : (0 : Int) ≤ (k : Int) := by omega
                            clear hdn o9 hch
                            go_wp2_with fail
                            go_region_held3 (fun w' => w'.cell? ⟨FB, 0, none⟩ = some (.func (.func 29) #[] #[.pointer (some ⟨NB, 0, none⟩), .pointer (some ⟨SB, 0, none⟩), .pointer (some ⟨LB, 0, none⟩), .pointer (some ⟨FB, 0, none⟩)]) ∧ w'.cell? ⟨C, 0, none⟩ = some (.int .i64 (done : Int)))
                              (first | exact HE10.out | exact HE9.out)
                              (first | (go_at_call 29; rw [HSW.out, HBO.out]; (first | with_reducible refine HCH0.out.mono ?_ | with_reducible refine HCH1.out.mono ?_ | with_reducible refine (HCHN.out _).mono ?_); rintro e w10 ⟨b, rfl, o10, hb1, hb2⟩; have O10 : Hid (Only (fun k => k = S) w9 w10) := Lib.hid (by first | exact o10 | exact ((Only.refl (fun k => k = S) w9).drew).trans o10 | exact ((Only.refl (fun k => k = S) w9).drewN _).trans o10); have HB1 := Lib.hid hb1; have HB2 := Lib.hid hb2; have HE10 := Lib.hid (And.intro (HI9.out.env.only O10.out).fb ((HI9.out.cell.kept O10.out HNS.out).is 0 _ rfl)); clear o10 hb1 hb2))
                            all_goals (
                              cases b with
                              | true =>
                                have HM1 := Lib.hid (HB1.out rfl)
                                clear HB1 HB2
                                go_wp2_with fail
                                (try rw [Exit.noGoto_ret])
                                go_ret
                                exact ⟨true, rfl, HI9.out.only.trans O10.out, fun _ => HM1.out, fun e => by cases e⟩
                              | false =>
                                obtain ⟨n9, D9, f9, h9⟩ := HB2.out rfl
                                have H9 := Lib.hid h9
                                clear h9 HB1 HB2
                                go_wp2_with fail
                                go_roundg (j - (k + 1))
                                case measure => have := HLT.out; omega
                                case rel => exact ⟨k + 1, n9, D9, f9, by have := HLT.out; omega, rfl, (by first | rfl | exact next_int (by have := HLT.out; have := HLN.out; omega)), H9⟩)
                          · as_aux_lemma =>
                            have b11 : (rv.toList == x11.toList) = false := by rw [same_str, decide_eq_false_iff_not]; exact h11
                            have HNOGO : Hid (∀ st', (⟨x0, x1, x2, x3, ⟨x4, x5, x6, x7, x8⟩, ⟨x9, x10, x11⟩⟩ : Opn).goes (some v) = some st' → False) := Lib.hid (fun st' hg => by
                              unfold Opn.goes at hg
                              split at hg
                              · next hc => exact hc.2.elim (fun e => HX3.out e) (fun e => by rw [← HRS.out] at e; injection e with e1 e2 e3; exact h11 e3)
                              · cases hg)
                            clear h9 h10 h11
                            go_wp2_with fail
                            go_roundg (j - (k + 1))
                            case measure => have := HLT.out; omega
                            case rel => exact ⟨k + 1, ni, Di, fi, by have := HLT.out; omega, rfl, (by first | rfl | exact next_int (by have := HLT.out; have := HLN.out; omega)), Lib.hid ((HI8.out).skip fun o st' ht hg => by
                              have he := ht.1
                              rw [HX.out] at he
                              injection he with he
                              subst he
                              exact HNOGO.out st' hg)⟩
                        · as_aux_lemma =>
                          have b10 : (rf == x10) = false := by simpa using h10
                          have HNOGO : Hid (∀ st', (⟨x0, x1, x2, x3, ⟨x4, x5, x6, x7, x8⟩, ⟨x9, x10, x11⟩⟩ : Opn).goes (some v) = some st' → False) := Lib.hid (fun st' hg => by
                            unfold Opn.goes at hg
                            split at hg
                            · next hc => exact hc.2.elim (fun e => HX3.out e) (fun e => by rw [← HRS.out] at e; injection e with e1 e2 e3; exact h10 e2)
                            · cases hg)
                          clear h9 h10
                          go_wp2_with fail
                          go_roundg (j - (k + 1))
                          case measure => have := HLT.out; omega
                          case rel => exact ⟨k + 1, ni, Di, fi, by have := HLT.out; omega, rfl, (by first | rfl | exact next_int (by have := HLT.out; have := HLN.out; omega)), Lib.hid ((HI8.out).skip fun o st' ht hg => by
                            have he := ht.1
                            rw [HX.out] at he
                            injection he with he
                            subst he
                            exact HNOGO.out st' hg)⟩
                      · as_aux_lemma =>
                        have b9 : (rk == x9) = false := by simpa using h9
                        have HNOGO : Hid (∀ st', (⟨x0, x1, x2, x3, ⟨x4, x5, x6, x7, x8⟩, ⟨x9, x10, x11⟩⟩ : Opn).goes (some v) = some st' → False) := Lib.hid (fun st' hg => by
                          unfold Opn.goes at hg
                          split at hg
                          · next hc => exact hc.2.elim (fun e => HX3.out e) (fun e => by rw [← HRS.out] at e; injection e with e1 e2 e3; exact h9 e1)
                          · cases hg)
                        clear h9
                        go_wp2_with fail
                        go_roundg (j - (k + 1))
                        case measure => have := HLT.out; omega
                        case rel => exact ⟨k + 1, ni, Di, fi, by have := HLT.out; omega, rfl, (by first | rfl | exact next_int (by have := HLT.out; have := HLN.out; omega)), Lib.hid ((HI8.out).skip fun o st' ht hg => by
                          have he := ht.1
                          rw [HX.out] at he
                          injection he with he
                          subst he
                          exact HNOGO.out st' hg)⟩
                  · as_aux_lemma =>
                    have HI6 := Lib.hid (HIG.out.new_ o6)
                    have HCO6 := Lib.hid (HCG.out.kept o6 fun e => e)
                    clear y0 y1 y2 t4 t5 t6 t7 t8 u4 u5 u6 u7 u8 ewg eG
                    obtain ⟨cd, hcd⟩ : ∃ cd, cd = (⟨x4, x5, x6, x7, x8⟩ : Op5).code := ⟨_, rfl⟩
                    rw [← hcd] at he6
                    subst he6
                    have bc : (cd == 0) = false := by rw [hcd]; simpa using hc0
                    have bc2 : (cd != 0) = true := by rw [bne, bc]; rfl
                    have HNOGO : Hid (∀ st', (⟨x0, x1, x2, x3, ⟨x4, x5, x6, x7, x8⟩, ⟨x9, x10, x11⟩⟩ : Opn).goes (some v) = some st' → False) := Lib.hid (fun st' hg => by
                      unfold Opn.goes at hg
                      split at hg
                      · next hc => exact hc0 hc.1
                      · cases hg)
                    clear hcd hc0 o6
                    unfold Rs.zero Rs.v
                    simp only
                    have s3 := HCO6.out.is 3 _ rfl
                    go_wp2_with fail
                    go_roundg (j - (k + 1))
                    case measure => have := HLT.out; omega
                    case rel => exact ⟨k + 1, ni, Di, fi, by have := HLT.out; omega, rfl, (by first | rfl | exact next_int (by have := HLT.out; have := HLN.out; omega)), Lib.hid ((HI6.out.new_ ((Only.refl None' _).alloc _)).skip fun o st' ht hg => by
                      have he := ht.1
                      rw [HX.out] at he
                      injection he with he
                      subst he
                      exact HNOGO.out st' hg)⟩
        · obtain rfl : k = ln := by omega
          go_wp2_with fail
          (try rw [Exit.noGoto_ret])
          go_ret
          have hno := HI.out.noway (by have := HLN.out; omega) HID.out
          refine ⟨false, rfl, HI.out.only, (fun e => by cases e), fun _ => ⟨hno, Di, ni, fi, HI.out.own, HI.out.cnt, ?_, fun t ht h => ?_⟩⟩
          · have h1 := HI.out.le
            have h2 : 1 ≤ free l done := by
              by_cases h0 : free l done = 0
              · exfalso
                refine HID.out fun m p hp hb => ?_
                have := free_less (l := l) (k := m) (done := done) (List.getElem?_eq_some_iff.1 hp).1 hb
                omega
              · omega
            have h3 := cost_step h2
            have h4 := Nat.mul_le_mul_right (cost (free l done - 1)) (show k ≤ 14 by have := HLN.out; omega)
            show ni ≤ n + cost (free l done)
            have h1 : ni ≤ n + 1 + k * cost (free l done - 1) := h1
            omega
          · rcases HI.out.memo t ht h with e | e | e
            · exact .inl e
            · rw [e]; exact .inr hno
            · exact .inr e
    · have d2 : decide ((1 : Int) < (nx : Int)) = true := by rw [decide_eq_true_eq]; have := HFS.out.2.1; omega
      have d2' : (1 : Int) < (nx : Int) := by have := HFS.out.2.1; omega
      have H0 := Lib.hid h0
      clear h0
      go_wp2_with fail
      (try rw [Exit.noGoto_ret])
      go_ret
      have hno : ¬ MCs l (done, st) := HM.out (done, st) HS.out (by rw [← HFS.out.1]; have := H0.out; omega) (Nat.le_refl _)
      refine ⟨false, rfl, O3.out, (fun e => by cases e), fun _ => ⟨hno, _, _, _, OWN3.out, CNT3.out, ?_, fun t ht h => ?_⟩⟩
      · have := cost_pos (free l done)
        show n + 1 ≤ n + cost (free l done)
        omega
      · rcases HMS.out t ht h with e | e
        · exact .inl e
        · rw [e]; exact .inr hno
end Go.Proofs.Ytajbagdgjbihjaa
