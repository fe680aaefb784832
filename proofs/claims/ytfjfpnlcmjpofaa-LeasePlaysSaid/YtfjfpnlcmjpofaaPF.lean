/- The document's All. -/
import Derived.Test.YtfjfpnlcmjpofaaPE
import Derived.Deep.CutBlock
import Derived.Laws.Cover1
namespace Go.Proofs.Ytfjfpnlcmjpofaa
open Go.RowKit Go.Maps Go.Sort Go.Shelf
set_option linter.unusedVariables false

set_option maxRecDepth 20000 in
set_option maxHeartbeats 16000000 in
theorem dall_any {w : World} {X : Nat} {lv sv : Value} {t : Tb} (h : DocAt w X lv sv t) (now : Int) : Calls Try.prog 25 #[.pointer (some ⟨X, 0, none⟩), .int .i64 now] w fun e w' => ∃ (v : Value) (l : List Ls), e = .returned v ∧ l.Perm (t.ls.filter (live now)) ∧ Up l ∧ Vec w' 4 v l.length (l.flatMap Ls.row) ∧ (∀ k, v.ownBlock = some k → w.heap.size ≤ k) ∧ Only None' w w' := by
  have H := Lib.hid h
  have HLEN : Hid (t.ls.length ≤ 1048575) := Lib.hid (Nat.le_trans h.ok.few h.ok.g)
  obtain ⟨la, lk, rfl, _, _⟩ := h.row.shape
  obtain ⟨m, hm⟩ : ∃ m, m = t.ls.length := ⟨_, rfl⟩
  have HM := Lib.hid hm
  have hrow := h.row
  rw [← hm] at H hrow
  have HROW := Lib.hid hrow
  have HML : Hid (m ≤ maxLen) := Lib.hid (by have h1 := HM.out; have h2 := HLEN.out; unfold maxLen; omega)
  clear h hm hrow
  go_enter Try.func25, Try.ntmps25
  go_wp2_with fail
  go_loopw [5, 6] (fun p i wr => ∃ (j q : Nat) (pa : Option Addr) (pc : Nat) (L : List Ls), j ≤ m ∧ p = .slice pa q pc ∧ i = .int .i64 (j : Int) ∧ Hid (q = L.length ∧ L.Perm ((t.ls.take j).filter (live now)) ∧ Up L) ∧ Hid (GL w wr (.slice pa q pc) L)) (fun p i wr => m - (intOf i).toNat)
  case atStart => exact ⟨0, 0, none, 0, [], by omega, rfl, rfl, Lib.hid ⟨rfl, List.Perm.refl _, List.Pairwise.nil⟩, Lib.hid (GL.start _)⟩
  case round =>
    obtain ⟨j, q, pa, pc, L, hj, rfl, rfl, HPL, HJ⟩ := hrel
    have HD := Lib.hid (H.out.new HJ.out.only)
    have c4 := HD.out.cells.is 4 _ rfl
    have HQM : Hid (q ≤ 1048575) := Lib.hid (by
      rw [HPL.out.1, HPL.out.2.1.length_eq]
      exact Nat.le_trans (List.length_filter_le _ _) (Nat.le_trans (List.length_take_le' j _) HLEN.out))
    by_cases hlt : j < m
    · have hjl : j < t.ls.length := by have := HM.out; omega
      obtain ⟨ga, offa, rfl, hga, hcell, _⟩ := (HROW.out.only HJ.out.only fun _ _ e => e).form' (by omega)
      obtain ⟨x, hx⟩ : ∃ x, x = t.ls[j] := ⟨_, rfl⟩
      have hcell2 : ∀ i u, (Ls.row x)[i]? = some u → wr.cell? ⟨ga, offa + j * 4 + i, none⟩ = some u := fun i u h => by
        rw [hx] at h
        have := hcell (j * 4 + i) u (flat_at Ls.row 4 t.ls j (fun y _ => rfl) hjl i u h)
        rwa [← Nat.add_assoc] at this
      have HX : Hid (t.ls[j]? = some x) := Lib.hid (by rw [hx]; exact List.getElem?_eq_getElem hjl)
      clear hx hcell
      obtain ⟨x0, x1, x2, x3⟩ := x
      have q0 := hcell2 0 _ rfl
      have q1 := hcell2 1 _ rfl
      have q2 := hcell2 2 _ rfl
      have q3 := hcell2 3 _ rfl
      rw [Nat.add_zero] at q0
      simp only at q0 q1 q2 q3
      have i0 : (0 : Int) ≤ (j : Int) := by omega
      have i1 : (j : Int) < (m : Int) := by omega
      have HLT := Lib.hid hlt
      clear hj hlt hjl hga hcell2
      obtain ⟨T, hT⟩ : ∃ T, T = wr.heap.size := ⟨_, rfl⟩
      obtain ⟨wb, hwb⟩ : ∃ wb, wb = wr.alloc (.cells #[.string x0, .int .i64 x1, .int .i64 x2, .int .i64 x3] 66) := ⟨_, rfl⟩
      have OB : Hid (Only None' wr wb) := Lib.hid (by rw [hwb]; exact (Only.refl None' wr).alloc _)
      have CT : Hid (CellsR wb T [.string x0, .int .i64 x1, .int .i64 x2, .int .i64 x3]) := Lib.hid (by rw [hwb, hT]; exact cells_new wr [.string x0, .int .i64 x1, .int .i64 x2, .int .i64 x3] 66)
      have ewb := hwb.symm
      have eT := hT.symm
      have HWB := Lib.hid hwb
      have HTT := Lib.hid hT
      have tt0 := CT.out.is 3 _ rfl
      clear hwb hT
      by_cases hlv : now < x3
      · have d1 : decide (x3 ≤ now) = false := by rw [decide_eq_false_iff_not]; omega
        have HPX : Hid (live now ⟨x0, x1, x2, x3⟩ = true) := Lib.hid (by simpa [live] using hlv)
        clear hlv
        go_upto_block 2 with fail
        clear c4 q0 q1 q2 q3 i0 i1 ewb eT tt0 d1
        go_cut [8] from 31 to 67 (fun v8 wz => ∃ kt : Nat, v8 = .int .i64 (kt : Int) ∧ Hid (kt ≤ q ∧ (∀ y ∈ L.drop kt, Bf ⟨x0, x1, x2, x3⟩ y) ∧ ∀ y, 0 < kt → L[kt - 1]? = some y → ¬ Bf ⟨x0, x1, x2, x3⟩ y) ∧ Hid (Only None' wb wz))
        case first =>
          as_aux_lemma =>
          have hwbe : wr.alloc (.cells #[.string x0, .int .i64 x1, .int .i64 x2, .int .i64 x3] 66) = wb := HWB.out.symm
          have HWE := Lib.hid hwbe
          clear hwbe
          go_wp2_with fail
          go_loopw [8] (fun v wy => ∃ kt : Nat, kt ≤ q ∧ v = .int .i64 (kt : Int) ∧ Hid (∀ y ∈ L.drop kt, Bf ⟨x0, x1, x2, x3⟩ y) ∧ Hid (Only None' wb wy)) (fun v wy => (intOf v).toNat)
          case atStart => exact ⟨q, Nat.le_refl _, rfl, Lib.hid (fun y hy => by rw [List.drop_of_length_le (by have := HPL.out.1; omega)] at hy; simp at hy), Lib.hid (Only.refl _ _)⟩
          case round =>
            have hwbe := HWE.out
            obtain ⟨kt, hkq, rfl, HB, HO⟩ := hrel
            rename World => wy
            have HKQ := Lib.hid hkq
            by_cases h0 : kt = 0
            · subst h0
              clear hkq hwbe
              go_wp2_with fail
              go_quiet (fail)
              go_wp2_with fail
              go_meet
              exact ⟨0, by simp, Lib.hid ⟨HKQ.out, HB.out, fun y hy => absurd hy (by omega)⟩, Lib.hid (HO.out.drewN nq)⟩
            · obtain ⟨k, rfl⟩ : ∃ k, kt = k + 1 := ⟨kt - 1, by omega⟩
              have hkl : k < L.length := by have := HPL.out.1; omega
              have hv := HJ.out.row
              rw [← HPL.out.1] at hv
              obtain ⟨gb, offb, rfl, hgb, hcellb, _⟩ := (hv.only ((Only.refl None' wr).alloc (.cells #[.string x0, .int .i64 x1, .int .i64 x2, .int .i64 x3] 66)) fun _ _ e => e).form' (by omega)
              have hcellb : ∀ j u, (L.flatMap Ls.row)[j]? = some u → wy.cell? ⟨gb, offb + j, none⟩ = some u := fun j u h => by
                rw [HO.out.cell (by rw [← hwbe]; exact hgb) (fun e => e), ← hwbe]
                exact hcellb j u h
              obtain ⟨y, hy⟩ : ∃ y, y = L[k] := ⟨_, rfl⟩
              have hcellb2 : ∀ i u, (Ls.row y)[i]? = some u → wy.cell? ⟨gb, offb + k * 4 + i, none⟩ = some u := fun i u h => by
                rw [hy] at h
                have := hcellb (k * 4 + i) u (flat_at Ls.row 4 L k (fun y _ => rfl) hkl i u h)
                rwa [← Nat.add_assoc] at this
              have HYK : Hid (L[k]? = some y) := Lib.hid (by rw [hy]; exact List.getElem?_eq_getElem hkl)
              have hdr : L.drop k = y :: L.drop (k + 1) := by rw [hy]; exact List.drop_eq_getElem_cons hkl
              have CTY := CT.out.kept HO.out fun e => e
              have t0 := CTY.is 0 _ rfl
              have t1 := CTY.is 1 _ rfl
              obtain ⟨y0, y1, y2, y3⟩ := y
              have p0 := hcellb2 0 _ rfl
              have p1 := hcellb2 1 _ rfl
              rw [Nat.add_zero] at p0
              simp only at p0 p1
              have i2 : (0 : Int) ≤ (k : Int) := by omega
              have i3 : (k : Int) < (q : Int) := by omega
              have i4 : (q : Int) ≤ 1048575 := by have := HQM.out; omega
              have hw1 : wrap64 ((k : Int) + 1 - 1) = (k : Int) := (IntWalk.wrap64_in _ (by omega)).trans (by omega)
              have hwk : IntKind.i64.wrap (k : Int) = (k : Int) := wrap_small (by omega) (by omega)
              have hwk2 : IntKind.i64.wrap ((k : Int) + 1 - 1) = (k : Int) := by rw [Int.add_sub_cancel]; exact wrap_small (by omega) (by omega)
              have d0 : decide ((0 : Int) < (k : Int) + 1) = true := by rw [decide_eq_true_eq]; omega
              have HDRW := Lib.hid hdr
              have hnb : ¬ Bf ⟨x0, x1, x2, x3⟩ ⟨y0, y1, y2, y3⟩ → ∀ y, 0 < k + 1 → L[k + 1 - 1]? = some y → ¬ Bf ⟨x0, x1, x2, x3⟩ y := fun hh y _ hy => by
                rw [Nat.add_sub_cancel, HYK.out] at hy
                injection hy with hy
                subst hy
                exact hh
              have hdn : Bf ⟨x0, x1, x2, x3⟩ ⟨y0, y1, y2, y3⟩ → ∀ y ∈ L.drop k, Bf ⟨x0, x1, x2, x3⟩ y := fun hh y hy => by
                rw [HDRW.out] at hy
                rcases List.mem_cons.1 hy with rfl | hy
                · exact hh
                · exact HB.out y hy
              have HDN := Lib.hid hdn
              have HNN := Lib.hid hnb
              clear hwbe h0 hkq hkl hv hgb hcellb hy hcellb2 hdr CTY hdn hnb
              rcases str_tri x0.data.toList y0.data.toList with g1 | g1 | g1
              · have hne : y0 ≠ x0 := fun e => by rw [e] at g1; exact List.lt_irrefl _ g1
                have b1 : Op.bytesLess y0.toList x0.toList = false := by rw [bytesLess_eq, data_toList, data_toList, decide_eq_false_iff_not]; exact fun h => List.lt_irrefl _ (List.lt_trans g1 h)
                have b2 : (y0.toList == x0.toList) = false := by rw [same_strP, decide_eq_false_iff_not]; exact hne
                have HDR := Lib.hid (HDN.out (Or.inl g1))
                clear g1 hne
                go_wp2_with fail
                go_quiet (fail)
                go_wp2_with fail
                go_roundw
                case rel => exact ⟨k, by omega, by simp, Lib.hid HDR.out, Lib.hid (HO.out.drewN nq)⟩
                case measure => simp [intOf]
              · obtain rfl : x0 = y0 := key_eq g1
                have b1 : Op.bytesLess x0.toList x0.toList = false := by rw [bytesLess_eq, decide_eq_false_iff_not]; exact List.lt_irrefl _
                have b2 : (x0.toList == x0.toList) = true := by rw [same_strP, decide_eq_true_eq]
                by_cases g3 : x1 < y1
                · have b3 : decide (x1 < y1) = true := by rw [decide_eq_true_eq]; exact g3
                  have HDR := Lib.hid (HDN.out (Or.inr ⟨rfl, g3⟩))
                  clear g1 g3
                  go_wp2_with fail
                  go_quiet (fail)
                  go_wp2_with fail
                  go_roundw
                  case rel => exact ⟨k, by omega, by simp, Lib.hid HDR.out, Lib.hid (HO.out.drewN nq)⟩
                  case measure => simp [intOf]
                · have b3 : decide (x1 < y1) = false := by rw [decide_eq_false_iff_not]; exact g3
                  have HNB := Lib.hid (HNN.out (fun hh => hh.elim (fun h => List.lt_irrefl _ h) fun hh => g3 hh.2))
                  clear g1 g3
                  go_wp2_with fail
                  go_quiet (fail)
                  go_wp2_with fail
                  go_meet
                  exact ⟨k + 1, by simp, Lib.hid ⟨HKQ.out, HB.out, HNB.out⟩, Lib.hid (HO.out.drewN nq)⟩
              · have hne : y0 ≠ x0 := fun e => by rw [e] at g1; exact List.lt_irrefl _ g1
                have b1 : Op.bytesLess y0.toList x0.toList = true := by rw [bytesLess_eq, data_toList, data_toList, decide_eq_true_eq]; exact g1
                have b2 : (y0.toList == x0.toList) = false := by rw [same_strP, decide_eq_false_iff_not]; exact hne
                have HNB := Lib.hid (HNN.out (fun hh => hh.elim (fun h => List.lt_irrefl _ (List.lt_trans g1 h)) fun hh => hne hh.1.symm))
                clear g1 hne
                go_wp2_with fail
                go_quiet (fail)
                go_wp2_with fail
                go_meet
                exact ⟨k + 1, by simp, Lib.hid ⟨HKQ.out, HB.out, HNB.out⟩, Lib.hid (HO.out.drewN nq)⟩
        case rest =>
          obtain ⟨kt, rfl, HP, HO⟩ := hcut
          rename World => wz
          have HZ : Hid (GL w wz (.slice pa q pc) L) := Lib.hid ⟨(HJ.out.only.trans OB.out).trans HO.out, (HJ.out.row.only OB.out fun _ _ e => e).only HO.out fun _ _ e => e, HJ.out.fresh⟩
          have CTZ := Lib.hid (CT.out.kept HO.out fun e => e)
          have t0 := CTZ.out.is 0 _ rfl
          have t1 := CTZ.out.is 1 _ rfl
          have t2 := CTZ.out.is 2 _ rfl
          have t3 := CTZ.out.is 3 _ rfl
          have HGV := Lib.hid HZ.out.row
          rw [← HPL.out.1] at HGV
          go_wp2_with (first | (at_builtin; refine wpList_append_any rfl _ _ 41 rfl 66 Try.t66 Ls.zero.v 4 40 under41 info66 t66_zero t66_size t66_bytes rfl (by decide) (.slice pa q pc) q (L.flatMap Ls.row) rfl (HGV.out.alloc _) (.slice (some ⟨wz.heap.size, 0, none⟩) 1 1) 1 [.string x0, .int .i64 x1, .int .i64 x2, .int .i64 x3] rfl (rd_new wz [.string x0, .int .i64 x1, .int .i64 x2, .int .i64 x3] 66 1 4 rfl (by decide)) (Ls.row_one ⟨x0, x1, x2, x3⟩) (by have h1 := HQM.out; unfold maxLen; omega) (by have h1 := HQM.out; omega) ?_; intro v2 w5 hv2 hg2 hf2; obtain ⟨gc, offc, oc2, rfl, hoc1, hoc2, _, _⟩ := hv2.at_ (Nat.succ_pos q); have HF2 := Lib.hid hf2; have OG := Lib.hid ((Only.refl (fun k => (Value.slice pa q pc).ownBlock = some k) (wz.alloc (.cells #[.string x0, .int .i64 x1, .int .i64 x2, .int .i64 x3] 66))).grown hg2 fun k hk => hk); have HY := Lib.hid (GL.push (x := ⟨x0, x1, x2, x3⟩) HZ.out (by rw [← HPL.out.1]; exact hv2) hg2 hf2); have HOC := Lib.hid (And.intro hoc1 hoc2); clear hv2 hg2 hf2 t0 t1 t2 t3))
          have CT5 : Hid (CellsR w5 T [.string x0, .int .i64 x1, .int .i64 x2, .int .i64 x3]) := Lib.hid ((CTZ.out.kept ((Only.refl None' wz).alloc (.cells #[.string x0, .int .i64 x1, .int .i64 x2, .int .i64 x3] 66)) fun e => e).kept OG.out fun e => by have h1 := HJ.out.row.lt e; have h2 := HTT.out; omega)
          have HTC : Hid (¬ (T = gc)) := Lib.hid (by
            rcases HF2.out gc rfl with h1 | h1
            · have := HJ.out.row.lt h1
              have := HTT.out
              omega
            · have h2 := CTZ.out.lt
              simp at h1
              omega)
          have V5 : Hid (Vec w5 4 (.slice (some ⟨gc, offc, none⟩) (q + 1) oc2) (q + 1) ((L ++ [(⟨x0, x1, x2, x3⟩ : Ls)]).flatMap Ls.row)) := Lib.hid (by
            have h := HY.out.row
            rw [List.length_append, ← HPL.out.1] at h
            exact h)
          have i4 : (q : Int) ≤ 1048575 := by have := HQM.out; omega
          have i5 : (0 : Int) ≤ (kt : Int) := by omega
          have i6 : (kt : Int) ≤ (q : Int) := by have := HP.out.1; omega
          have s1 : kt ≤ q := HP.out.1
          have s2 : q + 1 ≤ oc2 := HOC.out.1
          have s3 : ¬ oc2 = kt := by omega
          have hw1 : wrap64 ((kt : Int) + 1) = (kt : Int) + 1 := IntWalk.wrap64_in _ (by omega)
          have hw2 : IntKind.i64.wrap ((kt : Int) + 1) = (kt : Int) + 1 := wrap_small (by omega) (by omega)
          have hw3 : ((kt : Int) + 1).toNat = kt + 1 := by omega
          have s5 : (0 : Int) ≤ (kt : Int) + 1 := by omega
          have s6 : (kt : Int) + 1 ≤ (q : Int) + 1 := by omega
          have s7 : (kt : Int) ≤ (q : Int) + 1 := by omega
          by_cases hkq : kt < q
          · as_aux_lemma =>
            have s4 : ¬ oc2 = kt + 1 := by omega
            have HKQ := Lib.hid hkq
            obtain ⟨w6, hw6⟩ : ∃ w6, w6 = w5.drew.setCells gc (offc + (kt + 1) * 4) ((L.drop kt).flatMap Ls.row) := ⟨_, rfl⟩
            have V6 : Hid (Vec w6 4 (.slice (some ⟨gc, offc, none⟩) (q + 1) oc2) (q + 1) (((L ++ [(⟨x0, x1, x2, x3⟩ : Ls)]).take (kt + 1) ++ L.drop kt).flatMap Ls.row)) := Lib.hid (by rw [hw6]; exact shift_row (by have := HPL.out.1; omega) (by rw [HPL.out.1]) V5.out.drew)
            have O6 : Hid (Only (fun q => q = gc) w5 w6) := Lib.hid (by rw [hw6]; exact ((Only.refl (fun q => q = gc) w5).drew).trans ((Only.refl (fun q => q = gc) _).grown (grown_setCells _ _ _ _) fun k hk => by injection hk with hk; exact hk.symm))
            have hcp : (Builtin.copy_ #[41, 41] 3 #[.slice (some ⟨gc, offc + (kt + 1) * 4, none⟩) (q - kt) (oc2 - (kt + 1)), .slice (some ⟨gc, offc + kt * 4, none⟩) (q + 1 - kt) (oc2 - kt)]).run Try.prog w5.drew = .ok (goInt ((q - kt : Nat) : Int)) w6 := by
              rw [hw6]
              exact run_copy_many (P := Try.prog) w5.drew 41 41 3 66 Try.t66 4 gc (offc + (kt + 1) * 4) (q - kt) (oc2 - (kt + 1)) ⟨gc, offc + kt * 4, none⟩ (q + 1 - kt) (oc2 - kt) (q - kt) _ under41 info66 t66_size (by show q - kt = min _ _; omega) (by rw [rows4, List.length_drop, ← HPL.out.1]) (shift_src (by have := HPL.out.1; omega) (V5.out.drew)) (fun j hj => (shift_free (by have := HPL.out.1; omega) (by rw [HPL.out.1]) (V5.out.drew) j hj).1) (fun j hj => (shift_free (by have := HPL.out.1; omega) (by rw [HPL.out.1]) (V5.out.drew) j hj).2) (ones _)
            clear hw6 hkq
            go_region
            clear hcp
            have f0 := V6.out.free (k := kt * 4) (by have := HP.out.1; omega)
            have f1 := V6.out.free (k := kt * 4 + 1) (by have := HP.out.1; omega)
            have f2 := V6.out.free (k := kt * 4 + 2) (by have := HP.out.1; omega)
            have f3 := V6.out.free (k := kt * 4 + 3) (by have := HP.out.1; omega)
            rw [← Nat.add_assoc] at f1 f2 f3
            obtain ⟨u0', k0⟩ := Option.isSome_iff_exists.1 f0.1
            obtain ⟨u1', k1⟩ := Option.isSome_iff_exists.1 f1.1
            obtain ⟨u2', k2⟩ := Option.isSome_iff_exists.1 f2.1
            obtain ⟨u3', k3⟩ := Option.isSome_iff_exists.1 f3.1
            have z0 := f0.2
            have z1 := f1.2
            have z2 := f2.2
            have z3 := f3.2
            have CT6 := Lib.hid (CT5.out.kept O6.out HTC.out)
            have t0 := CT6.out.is 0 _ rfl
            have t1 := CT6.out.is 1 _ rfl
            have t2 := CT6.out.is 2 _ rfl
            have t3 := CT6.out.is 3 _ rfl
            clear f0 f1 f2 f3
            go_wp2_with fail
            go_roundw
            case rel =>
              refine ⟨j + 1, q + 1, some ⟨gc, offc, none⟩, oc2, L.take kt ++ ⟨x0, x1, x2, x3⟩ :: L.drop kt, by have := HLT.out; omega, rfl, next_len HLT.out HML.out, Lib.hid ⟨?_, ?_, ins_up (by have := HP.out.1; have := HPL.out.1; omega) HPL.out.2.2 HP.out.2.1 HP.out.2.2⟩, Lib.hid ⟨?_, ?_, HY.out.fresh⟩⟩
              · rw [List.length_append, List.length_cons, List.length_take, List.length_drop]
                have h1 := HP.out.1
                have h2 := HPL.out.1
                omega
              · rw [take_next HX.out, if_pos HPX.out]
                exact ins_perm HPL.out.2.1
              · exact (HY.out.only.trans2 O6.out fun k hk e => by have := HY.out.fresh gc rfl; omega).trans2 (four w6 gc (offc + kt * 4) _ _ _ _) fun k hk e => by have := HY.out.fresh gc rfl; omega
              · have h9 := setRow4 (k := kt) V6.out (by rw [List.length_append, List.length_take, List.length_drop, List.length_append, List.length_singleton]; have h1 := HP.out.1; have h2 := HPL.out.1; omega) (by rw [List.length_append, List.length_take, List.length_drop, List.length_append, List.length_singleton]; have h1 := HP.out.1; have h2 := HPL.out.1; omega) x0 x1 x2 x3
                rw [splice_rows (by have h1 := HP.out.1; have h2 := HPL.out.1; omega)] at h9
                have el : (L.take kt ++ (⟨x0, x1, x2, x3⟩ : Ls) :: L.drop kt).length = q + 1 := by
                  rw [List.length_append, List.length_cons, List.length_take, List.length_drop]
                  have h1 := HP.out.1
                  have h2 := HPL.out.1
                  omega
                rw [el]
                exact h9
            case measure => exact meas_len HLT.out HML.out
          · as_aux_lemma =>
            obtain rfl : kt = q := by omega
            clear hkq
            have HML2 : Hid ((L ++ [(⟨x0, x1, x2, x3⟩ : Ls)]).take (kt + 1) ++ L.drop kt = L ++ [(⟨x0, x1, x2, x3⟩ : Ls)]) := Lib.hid (by
              rw [List.take_of_length_le (by rw [List.length_append, ← HPL.out.1]; simp), List.drop_eq_nil_of_le (by have := HPL.out.1; omega), List.append_nil])
            by_cases hoc : oc2 = kt + 1
            all_goals (
              obtain ⟨w6, hw6⟩ : ∃ w6, w6 = w5.drew := ⟨_, rfl⟩
              have V6 : Hid (Vec w6 4 (.slice (some ⟨gc, offc, none⟩) (kt + 1) oc2) (kt + 1) (((L ++ [(⟨x0, x1, x2, x3⟩ : Ls)]).take (kt + 1) ++ L.drop kt).flatMap Ls.row)) := Lib.hid (by rw [hw6, HML2.out]; exact V5.out.drew)
              have O6 : Hid (Only (fun q => q = gc) w5 w6) := Lib.hid (by rw [hw6]; exact (Only.refl _ w5).drew)
              have hcp : ∀ (d a : Option Addr) (dCap sLen sCap : Nat), (Builtin.copy_ #[41, 41] 3 #[.slice d 0 dCap, .slice a sLen sCap]).run Try.prog w5.drew = .ok (goInt 0) w6 := fun d a dCap sLen sCap => by
                rw [hw6]
                exact run_copy_zero (P := Try.prog) w5.drew 41 41 3 66 Try.t66 d a 0 dCap sLen sCap under41 info66 (by simp)
              clear hw6
              go_region
              clear hcp
              have f0 := V6.out.free (k := kt * 4) (by have := HP.out.1; omega)
              have f1 := V6.out.free (k := kt * 4 + 1) (by have := HP.out.1; omega)
              have f2 := V6.out.free (k := kt * 4 + 2) (by have := HP.out.1; omega)
              have f3 := V6.out.free (k := kt * 4 + 3) (by have := HP.out.1; omega)
              rw [← Nat.add_assoc] at f1 f2 f3
              obtain ⟨u0', k0⟩ := Option.isSome_iff_exists.1 f0.1
              obtain ⟨u1', k1⟩ := Option.isSome_iff_exists.1 f1.1
              obtain ⟨u2', k2⟩ := Option.isSome_iff_exists.1 f2.1
              obtain ⟨u3', k3⟩ := Option.isSome_iff_exists.1 f3.1
              have z0 := f0.2
              have z1 := f1.2
              have z2 := f2.2
              have z3 := f3.2
              have CT6 := Lib.hid (CT5.out.kept O6.out HTC.out)
              have t0 := CT6.out.is 0 _ rfl
              have t1 := CT6.out.is 1 _ rfl
              have t2 := CT6.out.is 2 _ rfl
              have t3 := CT6.out.is 3 _ rfl
              clear f0 f1 f2 f3
              go_wp2_with fail
              go_roundw
              case rel =>
                refine ⟨j + 1, kt + 1, some ⟨gc, offc, none⟩, oc2, L.take kt ++ ⟨x0, x1, x2, x3⟩ :: L.drop kt, by have := HLT.out; omega, rfl, next_len HLT.out HML.out, Lib.hid ⟨?_, ?_, ins_up (by have := HP.out.1; have := HPL.out.1; omega) HPL.out.2.2 HP.out.2.1 HP.out.2.2⟩, Lib.hid ⟨?_, ?_, HY.out.fresh⟩⟩
                · rw [List.length_append, List.length_cons, List.length_take, List.length_drop]
                  have h1 := HP.out.1
                  have h2 := HPL.out.1
                  omega
                · rw [take_next HX.out, if_pos HPX.out]
                  exact ins_perm HPL.out.2.1
                · exact (HY.out.only.trans2 O6.out fun k hk e => by have := HY.out.fresh gc rfl; omega).trans2 (four w6 gc (offc + kt * 4) _ _ _ _) fun k hk e => by have := HY.out.fresh gc rfl; omega
                · have h9 := setRow4 (k := kt) V6.out (by rw [List.length_append, List.length_take, List.length_drop, List.length_append, List.length_singleton]; have h1 := HP.out.1; have h2 := HPL.out.1; omega) (by rw [List.length_append, List.length_take, List.length_drop, List.length_append, List.length_singleton]; have h1 := HP.out.1; have h2 := HPL.out.1; omega) x0 x1 x2 x3
                  rw [splice_rows (by have h1 := HP.out.1; have h2 := HPL.out.1; omega)] at h9
                  have el : (L.take kt ++ (⟨x0, x1, x2, x3⟩ : Ls) :: L.drop kt).length = kt + 1 := by
                    rw [List.length_append, List.length_cons, List.length_take, List.length_drop]
                    have h1 := HP.out.1
                    have h2 := HPL.out.1
                    omega
                  rw [el]
                  exact h9
              case measure => exact meas_len HLT.out HML.out)
      · have d1 : decide (x3 ≤ now) = true := by rw [decide_eq_true_eq]; omega
        have HPX : Hid (¬ live now ⟨x0, x1, x2, x3⟩ = true) := Lib.hid (by simpa [live] using hlv)
        clear hlv
        go_wp2_with fail
        go_roundw
        case rel => exact ⟨j + 1, q, pa, pc, L, by have := HLT.out; omega, rfl, next_len HLT.out HML.out, Lib.hid ⟨HPL.out.1, by rw [take_next HX.out, if_neg HPX.out, List.append_nil]; exact HPL.out.2.1, HPL.out.2.2⟩, Lib.hid ⟨HJ.out.only.trans OB.out, HJ.out.row.only OB.out fun _ _ e => e, HJ.out.fresh⟩⟩
        case measure => exact meas_len HLT.out HML.out
    · obtain rfl : j = m := by omega
      have HE : Hid ((t.ls.take j).filter (live now) = t.ls.filter (live now)) := Lib.hid (by rw [List.take_of_length_le (by have := HM.out; omega)])
      clear hj hlt
      go_wp2_with fail
      go_ret
      refine ⟨_, L, rfl, by rw [← HE.out]; exact HPL.out.2.1, HPL.out.2.2, HJ.out.row, HJ.out.fresh, HJ.out.only⟩
end Go.Proofs.Ytfjfpnlcmjpofaa
