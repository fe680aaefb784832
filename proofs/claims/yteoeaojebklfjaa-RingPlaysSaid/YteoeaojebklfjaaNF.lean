/- RingPlays: the walk. -/
import Derived.Test.YteoeaojebklfjaaNE
namespace Go.Proofs.Yteoeaojebklfjaa
open Go.RowKit Go.Maps
set_option linter.unusedVariables false

set_option maxRecDepth 100000 in
set_option maxHeartbeats 8000000 in
theorem rplays_good (first count base : Nat) (a : Option Addr) (n cp : Nat) (ss : List Rst) (w : World) (PP0 : Rsts w a n ss) (h1 : 1 ≤ count) (h2 : first + count ≤ 12) (h3 : base ≤ 4611686018427387904) :
    Calls Try.prog 10 #[.int .i64 (first : Int), .int .i64 (count : Int), .int .i64 (base : Int), .slice a n cp] w fun e w' => e = .returned (.bool true) ∧ Below w.heap.size w w' := by
  have PP := Lib.hid PP0
  have HC := Lib.hid (And.intro h1 (And.intro h2 h3))
  have hn := PP0.small
  have HN := Lib.hid hn
  have d1 : decide ((first : Int) < 0) = false := by simp
  have d2 : decide ((count : Int) < 1) = false := by simp; omega
  have d3 : decide ((12 : Int) < (count : Int)) = false := by simp; omega
  have d3' : decide (12 < count) = false := by simp; omega
  obtain ⟨m, hm⟩ : ∃ m : Nat, m = 12 - count := ⟨_, rfl⟩
  have a1 : (12 : Int) - (count : Int) = (m : Int) := by omega
  have a2 : wrap64 (m : Int) = (m : Int) := IntWalk.wrap64_in _ (by omega)
  have d4 : decide ((m : Int) < (first : Int)) = false := by simp; omega
  have d4' : decide (m < first) = false := by simp; omega
  have d5 : decide ((base : Int) < 0) = false := by simp
  have d6 : decide ((4611686018427387904 : Int) < (base : Int)) = false := by simp; omega
  have d6' : decide (4611686018427387904 < base) = false := by simp; omega
  clear h1 h2 h3 hm hn PP0
  go_enter Try.func10, Try.ntmps10
  go_wp2_with fail
  refine (new_dsk 12 12 rfl w _ (Only.refl _ _) (by decide) (by decide)).mono ?_
  rintro r w1 ⟨D, F1, rfl, hd1, -, -⟩
  obtain ⟨r0, hr0⟩ : ∃ r0, r0 = Rg.opened first count base (gAt first (Dk.new 12)) := ⟨_, rfl⟩
  have hop := opened_none (first := first) (base := base) HC.out.1 (g := gAt first (Dk.new 12)) fun i hi => see_zero (new_read (by have := HC.out.2.1; omega))
  have HO := Lib.hid (rk_open hd1 (calm_new 12) (by decide) HC.out.1 HC.out.2.1 HC.out.2.2 rfl rfl rfl hr0.symm hop.2 (m := 0) rfl)
  have HR0 := Lib.hid hr0
  clear hd1 hop hr0
  go_wp2_with fail
  refine HO.out.mono ?_
  rintro r w2 ⟨R, ra, rk, rfl, hR, hk, -, -⟩
  have HK := Lib.hid hk
  clear hk hR
  go_wp2_with fail
  refine (sectors_any HK.out.dsk.at_ HK.out.calm.dead (by simp [Dk.new]) (by rw [HK.out.calm.len]; exact HC.out.2.1)).mono ?_
  rintro r w3 ⟨v3, rfl, hv3, o3⟩
  obtain ⟨va, vc, rfl⟩ := hv3.shape
  rw [show ((List.range count).map (gAt first (Dk.new 12))).length = count by simp] at *
  have HV3 := Lib.hid (And.intro hv3 o3)
  clear hv3 o3
  go_wp2_with fail
  refine (docopen_any first HV3.out.1 (fun i hi => Dk.read_length HK.out.dsk.at_.ok (by rw [HK.out.calm.len]; have := HC.out.2.1; omega)) HC.out.1 (by have := HC.out.2.1; omega) HC.out.2.2).mono ?_
  rintro r w4 ⟨X, xa, xc, vo, rfl, hX, hx, hs, hrec, o4⟩
  obtain ⟨oa, oc, rfl⟩ := hrec.shape
  have L0 : Hid (Rp w w4 first count R X D F1 None' r0 (Dk.new 12) r0 (gAt first (Dk.new 12)) xa xc 0) := Rp.start HK.out HR0.out.symm HV3.out.2 hX hx hs o4
  clear hX hx hs hrec o4 d1 d2 d3 d3' a1 a2 d4 d4' d5 d6 d6' HK HV3 HO
  go_wp2_with fail
  go_loopw [11, 15, 17] (fun p q i wr => ∃ (k R X : Nat) (F : Nat → Prop) (r : Rg) (d : Dk) (xa : Option Addr) (xc : Nat), k ≤ n ∧ k ≤ 40 ∧ p = .pointer (some ⟨R, 0, none⟩) ∧ q = .pointer (some ⟨X, 0, none⟩) ∧ i = .int .i64 (k : Int) ∧ Hid (Rp w wr first count R X D F None' r d r (gAt first d) xa xc (12 * k))) (fun p q i wr => n - (intOf i).toNat)
  case atStart => exact ⟨0, _, _, _, _, _, _, _, by omega, by omega, rfl, rfl, rfl, L0⟩
  case round =>
    obtain ⟨k, R, X, F, r, d, xa, xc, hk, hk40, rfl, rfl, rfl, HL⟩ := hrel
    clear L0
    by_cases hlt : k < n ∧ k < 40
    · have hj : k < ss.length := by have := PP.out.len; omega
      obtain ⟨b, off, rfl, hb, hA⟩ := PP.out.at_ k hj
      obtain ⟨p, hp⟩ : ∃ p, p = ss[k] := ⟨_, rfl⟩
      rw [← hp] at hA
      clear hp
      obtain ⟨kd, ln, wh, nn⟩ := p
      have HB := Lib.hid hb
      have BA := Lib.hid hA
      have i0 : (0 : Int) ≤ (k : Int) := by omega
      have i1 : (k : Int) < (n : Int) := by omega
      have i2 : (k : Int) < 40 := by omega
      have HK := Lib.hid (show k < n ∧ k < 40 from hlt)
      obtain ⟨kn, hkn⟩ : ∃ kn, kn = kd.toNat := ⟨_, rfl⟩
      have k0 : wr.cell? ⟨b, off + k * 4, none⟩ = some (.int .u8 (kn : Int)) := by rw [hkn]; exact (HL.out.rk.dsk.only.cell HB.out (fun e => e) (off + k * 4)).trans BA.out.k0
      have k1 : wr.cell? ⟨b, off + k * 4 + 1, none⟩ = some (.int .i64 ln) := (HL.out.rk.dsk.only.cell HB.out (fun e => e) (off + k * 4 + 1)).trans BA.out.k1
      have k2 : wr.cell? ⟨b, off + k * 4 + 2, none⟩ = some (.int .u8 (wh.toNat : Int)) := (HL.out.rk.dsk.only.cell HB.out (fun e => e) (off + k * 4 + 2)).trans BA.out.k2
      have k3 : wr.cell? ⟨b, off + k * 4 + 3, none⟩ = some (.int .i64 nn) := (HL.out.rk.dsk.only.cell HB.out (fun e => e) (off + k * 4 + 3)).trans BA.out.k3
      clear hb hA hkn hlt hk hk40 hj
      go_upto_block 2 with fail
      go_cut [2, 10, 11, 12, 15, 18, 19, 20, 21, 22, 23, 24, 25, 26, 27] from 120 to 330 (fun z2 z10 p11 z12 p15 z18 z19 z20 z21 z22 z23 z24 z25 z26 z27 wx => ∃ (R X : Nat) (F : Nat → Prop) (r : Rg) (d : Dk) (xa : Option Addr) (xc : Nat), p11 = .pointer (some ⟨R, 0, none⟩) ∧ p15 = .pointer (some ⟨X, 0, none⟩) ∧ Hid (Rp w wx first count R X D F None' r d r (gAt first d) xa xc (12 * (k + 1))))
      case first =>
        by_cases q0 : kn = 0
        · as_aux_lemma =>
            have q0i : ((kn : Int) == 0) = true := by simp; omega
            have q0n : (kn == 0) = true := by simpa using q0
            clear q0
            go_wp2_with fail
            refine (record_any (kn : Int) ln (wh.toNat : Int) nn wr).mono ?_
            rintro e w5 ⟨gr, s, rfl, hsl, hv5, hg5, o5⟩
            have V5 := Lib.hid (And.intro hv5 (And.intro hg5 (And.intro o5 hsl)))
            clear hv5 hg5 o5 hsl
            go_wp2_with (first | (at_builtin; refine wpList_dup rfl _ _ rfl rfl (gb := w5.heap.size) (L := s.length) (rec := s) rfl rfl (empty_row w5 5 1) rfl ((V5.out.1.alloc _).rd) (by have := V5.out.2.2.2; omega) ?_; intro g2 o2 c2 w6 hv6 hg6 hf6; have V6 := Lib.hid (And.intro hv6 (And.intro (only_fresh ((Only.refl None' w5).alloc _) (Nat.le_refl _) hg6) (show w5.heap.size ≤ g2 from hf6.elim (fun e => by omega) fun e => by have : (w5.alloc (.cells #[] 5)).heap.size = w5.heap.size + 1 := (by simp); omega))); clear hv6 hg6 hf6))
            have hcap : s.length ≤ c2 ∧ c2 ≤ maxLen := by
              obtain ⟨_, _, e, h1, h2⟩ := V6.out.1.shape
              injection e with _ _ e
              subst e
              exact ⟨h1, h2⟩
            have HCAP := Lib.hid hcap
            have hz : ∃ Z : Nat → Prop, Rp w w6 first count R X D F Z r d r (gAt first d) xa xc (12 * k) ∧ (∀ j, Z j → j < w6.heap.size) ∧ Z g2 ∧ Z gr ∧ gr ≠ g2 := by
              have q1 := V5.out.2.1
              have q2 := V5.out.2.2.1.size
              have q3 := V6.out.2.1.size
              have q4 := V6.out.2.2
              have q5 : gr < w5.heap.size := V5.out.1.lt rfl
              have q6 : g2 < w6.heap.size := V6.out.1.lt rfl
              exact ⟨fun j => wr.heap.size ≤ j ∧ j < w6.heap.size, (HL.out.avoid fun j h => h.1).only (V5.out.2.2.1.trans V6.out.2.1), fun j h => h.2, ⟨by omega, q6⟩, ⟨q1, by omega⟩, by omega⟩
            obtain ⟨Z, hZ⟩ := hz
            have HZ := Lib.hid hZ
            clear hcap hZ
            go_wp2_with fail
            refine (HZ.out.1.append (by have := HK.out; omega) HZ.out.2.1 (rec := s) rfl V6.out.1.rd HCAP.out.1 HCAP.out.2 HZ.out.2.2.1 (by have := V5.out.2.2.2; omega)).mono ?_
            rintro e w7 ⟨code, r', d', F', rfl, hrp, hk7, hd7⟩
            have HD7 := Lib.hid hd7
            have HJ0 : Hid (Rp w w7 first count R X D F' Z r' d' r (gAt first d) xa xc (12 * k + 12) ∧ (∃ ys, Vec w7 1 (.slice (some ⟨g2, o2, none⟩) s.length c2) s.length ys) ∧ Vec w7 1 (.slice (some ⟨gr, 0, none⟩) s.length s.length) s.length (bv s)) := by
              refine ⟨hrp, ⟨_, V6.out.1.only hk7.only fun j hj e => ?_⟩, (V5.out.1.only V6.out.2.1 fun _ _ e => e).only hk7.only fun j hj e => ?_⟩
              · injection hj with hj
                have hj : g2 = j := hj
                subst hj
                exact e.elim (fun e => HZ.out.1.zf _ e HZ.out.2.2.1) fun e => HZ.out.1.zr (e ▸ HZ.out.2.2.1)
              · injection hj with hj
                have hj : gr = j := hj
                subst hj
                exact e.elim (fun e => HZ.out.1.zf _ e HZ.out.2.2.2.1) fun e => HZ.out.1.zr (e ▸ HZ.out.2.2.2.1)
            have HZ2 := Lib.hid HZ.out.2.2
            clear hrp hk7 hd7 HZ
            have HL3 : Hid (s.length < 3000) := V5.out.2.2.2
            clear k0 k1 k2 k3
            go_wp2_with fail
            go_loopw [20] (fun y wx => ∃ j : Nat, j ≤ s.length ∧ y = .int .i64 (j : Int) ∧ Hid (Rp w wx first count R X D F' Z r' d' r (gAt first d) xa xc (12 * k + 12) ∧ (∃ ys, Vec wx 1 (.slice (some ⟨g2, o2, none⟩) s.length c2) s.length ys) ∧ Vec wx 1 (.slice (some ⟨gr, 0, none⟩) s.length s.length) s.length (bv s))) (fun y wx => s.length - (intOf y).toNat)
            case atStart => exact ⟨0, by omega, rfl, HJ0⟩
            case round =>
              obtain ⟨j, hj, rfl, HJ⟩ := hrel
              by_cases hlt2 : j < s.length
              · have j0 : (0 : Int) ≤ (j : Int) := by omega
                have j1 : (j : Int) < (s.length : Int) := by omega
                obtain ⟨ys, hys⟩ := HJ.out.2.1
                have HYS := Lib.hid hys
                obtain ⟨f1, f2⟩ := hys.free (k := j) (by omega)
                obtain ⟨u, hu⟩ := Option.isSome_iff_exists.1 f1
                clear f1 hys
                go_wp2_with fail
                go_roundw
                case rel =>
                  have os : Only Z wr (wr.setCell ⟨g2, o2 + j, none⟩ (.int .u8 85)) := (Only.refl Z wr).setCell (p := ⟨g2, o2 + j, none⟩) HZ2.out.1 _
                  exact ⟨j + 1, by omega, next_int (by have := HL3.out; omega), Lib.hid ⟨HJ.out.1.aside os, ⟨_, HYS.out.set1o hlt2 _⟩, HJ.out.2.2.only ((Only.refl (fun i => i = g2) wr).setCell (p := ⟨g2, o2 + j, none⟩) rfl _) fun i hi e => HZ2.out.2.2 (by injection hi with hi; exact hi.trans e)⟩⟩
                case measure => exact meas hlt2 (by have := HL3.out; omega)
              · have hjL : j = s.length := by omega
                subst hjL
                clear hj hlt2
                go_wp2_with fail
                refine (HJ.out.1.free.xappend (rec := s) rfl HJ.out.2.2.rd (Nat.le_refl _) (by have := HL3.out; unfold maxLen; omega) (fun e => (HJ.out.1.s.own gr e).2.2.2.2 HZ2.out.2.1) (fun e => HJ.out.1.zx (e ▸ HZ2.out.2.1)) (by have := HL3.out; omega)).mono ?_
                rintro e w9 ⟨code', rx', g', rfl, hrp9, hd9⟩
                have hbb := both HD7.out hd9
                obtain ⟨e1, e2, e3⟩ := hbb
                subst e1 e2 e3
                have HR9 := Lib.hid hrp9
                clear hrp9 hd9
                go_wp2_with fail
                go_meet
                exact ⟨R, X, F', rx', d', xa, xc, rfl, rfl, Lib.hid (HR9.out.few (by omega))⟩
        have q0i : ((kn : Int) == 0) = false := by simp; omega
        have q0n : (kn == 0) = false := by simpa using q0
        by_cases q1 : kn = 1
        · as_aux_lemma =>
            have q1i : ((kn : Int) == 1) = true := by simp; omega
            have q1n : (kn == 1) = true := by simpa using q1
            clear q0 q1
            go_wp2_with fail
            refine (HL.out.sync (by have := HK.out; omega)).mono ?_
            rintro e w5 ⟨rfl, F', d', hrp, hw0, hg⟩
            have HR := Lib.hid hrp
            have HG := Lib.hid hg
            have HW := Lib.hid (hrp.rk.dsk.wait (n := 0) (by rw [hw0]; rfl))
            clear hrp hw0 hg
            go_wp2_with fail
            refine HW.out.mono ?_
            rintro e w6 ⟨rfl, e⟩
            obtain rfl := e
            go_wp2_with fail
            go_meet
            exact ⟨R, X, F', r, d', xa, xc, rfl, rfl, Lib.hid (by rw [HG.out]; exact HR.out.few (by omega))⟩
        have q1i : ((kn : Int) == 1) = false := by simp; omega
        have q1n : (kn == 1) = false := by simpa using q1
        by_cases q2 : kn = 2
        · as_aux_lemma =>
            have q2i : ((kn : Int) == 2) = true := by simp; omega
            have q2n : (kn == 2) = true := by simpa using q2
            clear q0 q1 q2
            go_wp2_with fail
            refine HL.out.empty.mono ?_
            rintro e w5 ⟨rfl, hrp⟩
            have HR := Lib.hid hrp
            clear hrp
            go_wp2_with fail
            refine HR.out.xempty.mono ?_
            rintro e w6 ⟨rfl, hrp2⟩
            have HR2 := Lib.hid hrp2
            clear hrp2
            go_wp2_with fail
            go_meet
            exact ⟨R, X, F, r.emptied, d, xa, xc, rfl, rfl, Lib.hid (HR2.out.few (by omega))⟩
        have q2i : ((kn : Int) == 2) = false := by simp; omega
        have q2n : (kn == 2) = false := by simpa using q2
        by_cases q3 : kn = 3
        · as_aux_lemma =>
            have q3i : ((kn : Int) == 3) = true := by simp; omega
            have q3n : (kn == 3) = true := by simpa using q3
            clear q0 q1 q2 q3
            have x1 := HL.out.x.is 1 _ rfl
            have HBS := Lib.hid (show r.base ≤ 4611686018427387904 by have := HL.out.xo; exact Nat.le_trans this.bl (Nat.le_trans this.lt this.top))
            go_wp2_with fail
            clear x1
            refine (HL.out.reopen (by have := HK.out; omega) (base := r.base) HBS.out).mono ?_
            rintro e w5 ⟨R', va, m, vc, rfl, hm, hrp, hrec⟩
            have hz : ∃ Z : Nat → Prop, Rp w w5 first count R' X D F Z (Rg.opened first count r.base (gAt first d)) d r (gAt first d) xa xc (12 * k) ∧ Recs w5 Z (.slice va m vc) (runG count (gAt first d) count r.base [] [] r.base).1 ∧ (∀ j, Z j → j < w5.heap.size) := ⟨_, hrp, hrec, fun j h => h.2.1⟩
            obtain ⟨Z, hZ⟩ := hz
            have HR := Lib.hid hZ
            have HM := Lib.hid hm
            clear hm hrp hrec hZ k0 k1 k2 k3
            have x0 := HR.out.1.x.is 0 _ rfl
            go_wp2_with fail
            refine (HR.out.1.xreopen HR.out.2.2 (base := r.base) HBS.out).mono ?_
            rintro e w6 ⟨X', xa', xc', va', m', vc', rfl, hm', hrp2, hrec2, o6⟩
            have HS := Lib.hid (same_any (HR.out.2.1.only o6 fun _ _ e => e) hrec2)
            have HRO := Lib.hid ((HR.out.2.1.only o6 fun _ _ e => e).rows_)
            rw [HM.out] at HRO
            have HP2 := Lib.hid hrp2
            clear hm' hrp2 hrec2 o6 x0
            go_wp2_with fail
            refine HS.out.mono ?_
            rintro e w7 ⟨rfl, q7, rfl⟩
            have HJ0 : Hid (Rp w (w6.drewN q7) first count R' X' D F Z (Rg.opened first count r.base (gAt first d)) d (Rg.opened first count r.base (gAt first d)) (gAt first d) xa' xc' (12 * k) ∧ RowsOf (w6.drewN q7) Z (.slice va m vc) m) := ⟨HP2.out.only ((Only.refl None' _).drewN q7), HRO.out.only ((Only.refl None' _).drewN q7) (fun _ _ e => e) fun _ _ e => e⟩
            clear HS HRO HP2
            go_wp2_with fail
            go_loopw [22] (fun y wx => ∃ i : Nat, i ≤ m ∧ y = .int .i64 (i : Int) ∧ Hid (Rp w wx first count R' X' D F Z (Rg.opened first count r.base (gAt first d)) d (Rg.opened first count r.base (gAt first d)) (gAt first d) xa' xc' (12 * k) ∧ RowsOf wx Z (.slice va m vc) m)) (fun y wx => m - (intOf y).toNat)
            case atStart => exact ⟨0, by omega, rfl, HJ0⟩
            case round =>
              obtain ⟨i, hi, rfl, HJ⟩ := hrel
              by_cases hlt3 : i < m
              · obtain ⟨gv, ov, cv, x, nx, ev, hmx, hcell, hth, hnx, hzx⟩ := HJ.out.2.at_ hlt3
                injection ev with e1 _ e3
                subst e1
                subst e3
                have HMX := Lib.hid (And.intro hlt3 (And.intro hmx hnx))
                have j0 : (0 : Int) ≤ (i : Int) := by omega
                have j1 : (i : Int) < (m : Int) := by omega
                clear hi hlt3 hmx hnx
                rcases hth with ⟨rfl, rfl⟩ | ⟨gx, ox, cx, rfl, hgx, hfree⟩
                · clear hzx
                  go_wp2_with fail
                  go_loopw [23] (fun y wx => y = .int .i64 0 ∧ wx = wr) (fun y wx => 0)
                  case atStart => exact ⟨rfl, rfl⟩
                  case round =>
                    obtain ⟨rfl, e⟩ := hrel
                    obtain rfl := e
                    go_wp2_with fail
                    go_roundw
                    case rel => exact ⟨i + 1, by have := HMX.out; omega, next_len HMX.out.1 HMX.out.2.1, HJ⟩
                    case measure => exact meas_len HMX.out.1 HMX.out.2.1
                · have hzg := hzx gx rfl
                  have HZG := Lib.hid (show Z gx ∧ gv ≠ gx from ⟨hzg.1, fun e => hzg.2 (by rw [e]; rfl)⟩)
                  have HQ0 : Hid (Rp w wr first count R' X' D F Z (Rg.opened first count r.base (gAt first d)) d (Rg.opened first count r.base (gAt first d)) (gAt first d) xa' xc' (12 * k) ∧ RowsOf wr Z (.slice (some ⟨gv, ov, none⟩) m vc) m ∧ wr.cell? ⟨gv, ov + i, none⟩ = some (.slice (some ⟨gx, ox, none⟩) nx cx) ∧ ∀ j, j < nx → (wr.cell? ⟨gx, ox + j, none⟩).isSome = true ∧ wr.frozen? ⟨gx, ox + j, none⟩ = false) := ⟨HJ.out.1, HJ.out.2, hcell, hfree⟩
                  clear hzg hzx hcell hfree hgx HJ
                  go_wp2_with fail
                  go_loopw [23] (fun y wx => ∃ j : Nat, j ≤ nx ∧ y = .int .i64 (j : Int) ∧ Hid (Rp w wx first count R' X' D F Z (Rg.opened first count r.base (gAt first d)) d (Rg.opened first count r.base (gAt first d)) (gAt first d) xa' xc' (12 * k) ∧ RowsOf wx Z (.slice (some ⟨gv, ov, none⟩) m vc) m ∧ wx.cell? ⟨gv, ov + i, none⟩ = some (.slice (some ⟨gx, ox, none⟩) nx cx) ∧ ∀ j, j < nx → (wx.cell? ⟨gx, ox + j, none⟩).isSome = true ∧ wx.frozen? ⟨gx, ox + j, none⟩ = false)) (fun y wx => nx - (intOf y).toNat)
                  case atStart => exact ⟨0, by omega, rfl, HQ0⟩
                  case round =>
                    obtain ⟨j, hj, rfl, HQ⟩ := hrel
                    have hcell := HQ.out.2.2.1
                    by_cases hlt4 : j < nx
                    · obtain ⟨f1, f2⟩ := HQ.out.2.2.2 j hlt4
                      obtain ⟨u, hu⟩ := Option.isSome_iff_exists.1 f1
                      have j2 : (0 : Int) ≤ (j : Int) := by omega
                      have j3 : (j : Int) < (nx : Int) := by omega
                      clear f1
                      go_wp2_with fail
                      go_roundw
                      case rel =>
                        refine ⟨j + 1, by omega, next_len hlt4 HMX.out.2.2, Lib.hid ⟨HQ.out.1.aside ((Only.refl Z wr).setCell (p := ⟨gx, ox + j, none⟩) HZG.out.1 _), HQ.out.2.1.set _ (fun e => HZG.out.2 (by injection e)) (by rw [hu]; rfl), ?_, fun q hq => ?_⟩⟩
                        · rw [World.cell?_setCell_far _ _ _ _ (fun e => HZG.out.2 e.symm)]
                          exact HQ.out.2.2.1
                        · obtain ⟨t1, t2⟩ := HQ.out.2.2.2 q hq
                          rw [World.frozen?_setCell]
                          refine ⟨?_, t2⟩
                          by_cases e : (⟨gx, ox + q, none⟩ : Addr) = ⟨gx, ox + j, none⟩
                          · rw [e, World.cell?_setCell_same _ _ _ hu]; rfl
                          · rw [World.cell?_setCell_other _ _ _ _ fun h => e h.symm]
                            exact t1
                      case measure => exact meas_len hlt4 HMX.out.2.2
                    · have hjn : j = nx := by omega
                      subst hjn
                      clear hj hlt4
                      go_wp2_with fail
                      go_roundw
                      case rel => exact ⟨i + 1, by have := HMX.out; omega, next_len HMX.out.1 HMX.out.2.1, Lib.hid ⟨HQ.out.1, HQ.out.2.1⟩⟩
                      case measure => exact meas_len HMX.out.1 HMX.out.2.1
              · have him : i = m := by omega
                subst him
                clear hi hlt3
                go_wp2_with fail
                go_meet
                exact ⟨R', X', F, _, d, xa', xc', rfl, rfl, Lib.hid (HJ.out.1.free.few (by omega))⟩
        have q3i : ((kn : Int) == 3) = false := by simp; omega
        have q3n : (kn == 3) = false := by simpa using q3
        by_cases q4 : kn = 4
        · as_aux_lemma =>
            have q4i : ((kn : Int) == 4) = true := by simp; omega
            have q4n : (kn == 4) = true := by simpa using q4
            clear q0 q1 q2 q3 q4
            obtain ⟨bs, hbs, hbl⟩ := nmod nn 20 (by decide) (by decide)
            have hbs' : wrap64 ((IntKind.u64.wrap nn).tmod 20) = (bs : Int) := hbs
            have HBS := Lib.hid (show bs ≤ 4611686018427387904 by omega)
            clear hbs hbl
            go_wp2_with fail
            try rw [hbs']
            clear hbs'
            refine (HL.out.reopen (by have := HK.out; omega) (base := bs) HBS.out).mono ?_
            rintro e w5 ⟨R', va, m, vc, rfl, hm, hrp, hrec⟩
            have hz : ∃ Z : Nat → Prop, Rp w w5 first count R' X D F Z (Rg.opened first count bs (gAt first d)) d r (gAt first d) xa xc (12 * k) ∧ Recs w5 Z (.slice va m vc) (runG count (gAt first d) count bs [] [] bs).1 ∧ (∀ j, Z j → j < w5.heap.size) := ⟨_, hrp, hrec, fun j h => h.2.1⟩
            obtain ⟨Z, hZ⟩ := hz
            have HR := Lib.hid hZ
            have HM := Lib.hid hm
            clear hm hrp hrec hZ k0 k1 k2 k3
            have x0 := HR.out.1.x.is 0 _ rfl
            go_wp2_with fail
            refine (HR.out.1.xreopen HR.out.2.2 (base := bs) HBS.out).mono ?_
            rintro e w6 ⟨X', xa', xc', va', m', vc', rfl, hm', hrp2, hrec2, o6⟩
            have HS := Lib.hid (same_any (HR.out.2.1.only o6 fun _ _ e => e) hrec2)
            have HRO := Lib.hid ((HR.out.2.1.only o6 fun _ _ e => e).rows_)
            rw [HM.out] at HRO
            have HP2 := Lib.hid hrp2
            clear hm' hrp2 hrec2 o6 x0
            go_wp2_with fail
            refine HS.out.mono ?_
            rintro e w7 ⟨rfl, q7, rfl⟩
            have HJ0 : Hid (Rp w (w6.drewN q7) first count R' X' D F Z (Rg.opened first count bs (gAt first d)) d (Rg.opened first count bs (gAt first d)) (gAt first d) xa' xc' (12 * k) ∧ RowsOf (w6.drewN q7) Z (.slice va m vc) m) := ⟨HP2.out.only ((Only.refl None' _).drewN q7), HRO.out.only ((Only.refl None' _).drewN q7) (fun _ _ e => e) fun _ _ e => e⟩
            clear HS HRO HP2
            go_wp2_with fail
            go_loopw [22] (fun y wx => ∃ i : Nat, i ≤ m ∧ y = .int .i64 (i : Int) ∧ Hid (Rp w wx first count R' X' D F Z (Rg.opened first count bs (gAt first d)) d (Rg.opened first count bs (gAt first d)) (gAt first d) xa' xc' (12 * k) ∧ RowsOf wx Z (.slice va m vc) m)) (fun y wx => m - (intOf y).toNat)
            case atStart => exact ⟨0, by omega, rfl, HJ0⟩
            case round =>
              obtain ⟨i, hi, rfl, HJ⟩ := hrel
              by_cases hlt3 : i < m
              · obtain ⟨gv, ov, cv, x, nx, ev, hmx, hcell, hth, hnx, hzx⟩ := HJ.out.2.at_ hlt3
                injection ev with e1 _ e3
                subst e1
                subst e3
                have HMX := Lib.hid (And.intro hlt3 (And.intro hmx hnx))
                have j0 : (0 : Int) ≤ (i : Int) := by omega
                have j1 : (i : Int) < (m : Int) := by omega
                clear hi hlt3 hmx hnx
                rcases hth with ⟨rfl, rfl⟩ | ⟨gx, ox, cx, rfl, hgx, hfree⟩
                · clear hzx
                  go_wp2_with fail
                  go_loopw [23] (fun y wx => y = .int .i64 0 ∧ wx = wr) (fun y wx => 0)
                  case atStart => exact ⟨rfl, rfl⟩
                  case round =>
                    obtain ⟨rfl, e⟩ := hrel
                    obtain rfl := e
                    go_wp2_with fail
                    go_roundw
                    case rel => exact ⟨i + 1, by have := HMX.out; omega, next_len HMX.out.1 HMX.out.2.1, HJ⟩
                    case measure => exact meas_len HMX.out.1 HMX.out.2.1
                · have hzg := hzx gx rfl
                  have HZG := Lib.hid (show Z gx ∧ gv ≠ gx from ⟨hzg.1, fun e => hzg.2 (by rw [e]; rfl)⟩)
                  have HQ0 : Hid (Rp w wr first count R' X' D F Z (Rg.opened first count bs (gAt first d)) d (Rg.opened first count bs (gAt first d)) (gAt first d) xa' xc' (12 * k) ∧ RowsOf wr Z (.slice (some ⟨gv, ov, none⟩) m vc) m ∧ wr.cell? ⟨gv, ov + i, none⟩ = some (.slice (some ⟨gx, ox, none⟩) nx cx) ∧ ∀ j, j < nx → (wr.cell? ⟨gx, ox + j, none⟩).isSome = true ∧ wr.frozen? ⟨gx, ox + j, none⟩ = false) := ⟨HJ.out.1, HJ.out.2, hcell, hfree⟩
                  clear hzg hzx hcell hfree hgx HJ
                  go_wp2_with fail
                  go_loopw [23] (fun y wx => ∃ j : Nat, j ≤ nx ∧ y = .int .i64 (j : Int) ∧ Hid (Rp w wx first count R' X' D F Z (Rg.opened first count bs (gAt first d)) d (Rg.opened first count bs (gAt first d)) (gAt first d) xa' xc' (12 * k) ∧ RowsOf wx Z (.slice (some ⟨gv, ov, none⟩) m vc) m ∧ wx.cell? ⟨gv, ov + i, none⟩ = some (.slice (some ⟨gx, ox, none⟩) nx cx) ∧ ∀ j, j < nx → (wx.cell? ⟨gx, ox + j, none⟩).isSome = true ∧ wx.frozen? ⟨gx, ox + j, none⟩ = false)) (fun y wx => nx - (intOf y).toNat)
                  case atStart => exact ⟨0, by omega, rfl, HQ0⟩
                  case round =>
                    obtain ⟨j, hj, rfl, HQ⟩ := hrel
                    have hcell := HQ.out.2.2.1
                    by_cases hlt4 : j < nx
                    · obtain ⟨f1, f2⟩ := HQ.out.2.2.2 j hlt4
                      obtain ⟨u, hu⟩ := Option.isSome_iff_exists.1 f1
                      have j2 : (0 : Int) ≤ (j : Int) := by omega
                      have j3 : (j : Int) < (nx : Int) := by omega
                      clear f1
                      go_wp2_with fail
                      go_roundw
                      case rel =>
                        refine ⟨j + 1, by omega, next_len hlt4 HMX.out.2.2, Lib.hid ⟨HQ.out.1.aside ((Only.refl Z wr).setCell (p := ⟨gx, ox + j, none⟩) HZG.out.1 _), HQ.out.2.1.set _ (fun e => HZG.out.2 (by injection e)) (by rw [hu]; rfl), ?_, fun q hq => ?_⟩⟩
                        · rw [World.cell?_setCell_far _ _ _ _ (fun e => HZG.out.2 e.symm)]
                          exact HQ.out.2.2.1
                        · obtain ⟨t1, t2⟩ := HQ.out.2.2.2 q hq
                          rw [World.frozen?_setCell]
                          refine ⟨?_, t2⟩
                          by_cases e : (⟨gx, ox + q, none⟩ : Addr) = ⟨gx, ox + j, none⟩
                          · rw [e, World.cell?_setCell_same _ _ _ hu]; rfl
                          · rw [World.cell?_setCell_other _ _ _ _ fun h => e h.symm]
                            exact t1
                      case measure => exact meas_len hlt4 HMX.out.2.2
                    · have hjn : j = nx := by omega
                      subst hjn
                      clear hj hlt4
                      go_wp2_with fail
                      go_roundw
                      case rel => exact ⟨i + 1, by have := HMX.out; omega, next_len HMX.out.1 HMX.out.2.1, Lib.hid ⟨HQ.out.1, HQ.out.2.1⟩⟩
                      case measure => exact meas_len HMX.out.1 HMX.out.2.1
              · have him : i = m := by omega
                subst him
                clear hi hlt3
                go_wp2_with fail
                go_meet
                exact ⟨R', X', F, _, d, xa', xc', rfl, rfl, Lib.hid (HJ.out.1.free.few (by omega))⟩
        have q4i : ((kn : Int) == 4) = false := by simp; omega
        have q4n : (kn == 4) = false := by simpa using q4
        by_cases q5 : kn = 5
        · as_aux_lemma =>
            have q5i : ((kn : Int) == 5) = true := by simp; omega
            have q5n : (kn == 5) = true := by simpa using q5
            clear q0 q1 q2 q3 q4 q5
            have HCC := HC.out
            obtain ⟨i, hi, hil⟩ := nmod nn count (by omega) (by omega)
            have uc : IntKind.u64.wrap (count : Int) = (count : Int) := u64_in (by omega)
            have uc0 : ¬ (count : Int) = 0 := by omega
            have uc1 : ((count : Int) == 0) = false := by simp; omega
            obtain ⟨pn, r2, r3, x3, L, r5, lb, ha⟩ := arith5 ln wh
            obtain ⟨t30, ht⟩ := ha.t30
            obtain ⟨w8, hw8⟩ : ∃ w8, w8 = wh.toNat := ⟨_, rfl⟩
            rw [← hw8] at ha k2
            have HA := Lib.hid ha
            have HT := Lib.hid ht
            have HW8 := Lib.hid hw8
            have HI := Lib.hid (And.intro i0 i1)
            have HIL := Lib.hid hil
            have HSS : Hid (∀ w', Only None' wr w' → w'.cell? ⟨b, off + k * 4 + 1, none⟩ = some (.int .i64 ln) ∧ w'.cell? ⟨b, off + k * 4 + 2, none⟩ = some (.int .u8 (w8 : Int))) := fun w' o => by
              have hbw : b < wr.heap.size := Nat.lt_of_lt_of_le HB.out HL.out.rk.dsk.only.size
              exact ⟨(o.cell hbw (fun e => e) _).trans k1, (o.cell hbw (fun e => e) _).trans k2⟩
            clear HCC ha ht hw8
            go_upto_region 53 with fail
            rw [hi]
            clear hi hil uc uc0 uc1 k0 k1 k2 k3
            go_cut [25] from 245 to 270 (fun p25 wx => ∃ T gz, p25 = .pointer (some ⟨T, 0, none⟩) ∧ Made wr wx T (pn : Int) lb (.slice (some ⟨gz, 0, none⟩) L L) (bv (List.replicate L 0)) L)
            case first =>
              refine wp_region_held (S := fun w' => w'.cell? ⟨b, off + k * 4 + 1, none⟩ = some (.int .i64 ln) ∧ w'.cell? ⟨b, off + k * 4 + 2, none⟩ = some (.int .u8 (w8 : Int))) (by kernel_rfl) ?_
              change wpAnyH _ _ _ _ _ _ _ _ (World.drew _)
              have WK : Hid (Wk wr wr.drew (bv (List.replicate L 0)) L none none none) := Wk.start wr _ _
              obtain ⟨wk, hwk⟩ : ∃ z, z = wr.drew := ⟨_, rfl⟩
              rw [← hwk] at WK ⊢
              clear hwk
              refine held_take 0 (.slice (some ⟨b, off, none⟩) n cp) (HSS.out _ WK.out.only) rfl (by kernel_rfl) (by kernel_rfl) (by kernel_rfl) (fun _ _ _ h => h) (by rfl) (fun w hw => by go_simp) ?_
              simp only [Act.put, List.setIfInBounds_toArray, List.set_cons_zero, List.set_cons_succ]
              refine held_take 1 (.int .i64 (k : Int)) (HSS.out _ WK.out.only) rfl (by kernel_rfl) (by kernel_rfl) (by kernel_rfl) (fun _ _ _ h => h) (by rfl) (fun w hw => by go_simp) ?_
              simp only [Act.put, List.setIfInBounds_toArray, List.set_cons_zero, List.set_cons_succ]
              refine held_take 2 (.pointer (some ⟨b, off + k * 4, none⟩)) (HSS.out _ WK.out.only) rfl (by kernel_rfl) (by kernel_rfl) (by kernel_rfl) (fun _ _ _ h => h) (by rfl) (fun w hw => by have j0 := HI.out.1; have j1 := HI.out.2; go_simp) ?_
              simp only [Act.put, List.setIfInBounds_toArray, List.set_cons_zero, List.set_cons_succ]
              refine held_take 3 (.pointer (some ⟨b, off + k * 4 + 1, none⟩)) (HSS.out _ WK.out.only) rfl (by kernel_rfl) (by kernel_rfl) (by kernel_rfl) (fun _ _ _ h => h) (by rfl) (fun w hw => by go_simp) ?_
              simp only [Act.put, List.setIfInBounds_toArray, List.set_cons_zero, List.set_cons_succ]
              refine held_take 4 (.int .i64 ln) (HSS.out _ WK.out.only) rfl (by kernel_rfl) (by kernel_rfl) (by kernel_rfl) (fun _ _ _ h => h) (by rfl) (fun w hw => by have cl : w.cell? ⟨b, off + k * 4 + 1, none⟩ = some (.int .i64 ln) := hw.1; go_simp) ?_
              simp only [Act.put, List.setIfInBounds_toArray, List.set_cons_zero, List.set_cons_succ]
              refine held_take 5 (.int .u64 (IntKind.u64.wrap ln)) (HSS.out _ WK.out.only) rfl (by kernel_rfl) (by kernel_rfl) (by kernel_rfl) (fun _ _ _ h => h) (by rfl) (fun w hw => yields_conv329 w rfl rfl rfl) ?_
              simp only [Act.put, List.setIfInBounds_toArray, List.set_cons_zero, List.set_cons_succ]
              refine held_take 6 (.int .u64 t30) (HSS.out _ WK.out.only) rfl (by kernel_rfl) (by kernel_rfl) (by kernel_rfl) (fun _ _ _ h => h) (by rfl) (fun w hw => yields_rem29 w rfl rfl rfl (by decide) HT.out.1 HT.out.2.1) ?_
              simp only [Act.put, List.setIfInBounds_toArray, List.set_cons_zero, List.set_cons_succ]
              refine held_take 7 (.int .i64 (pn : Int)) (HSS.out _ WK.out.only) rfl (by kernel_rfl) (by kernel_rfl) (by kernel_rfl) (fun _ _ _ h => h) (by rfl) (fun w hw => yields_conv293 w rfl rfl HT.out.2.2) ?_
              simp only [Act.put, List.setIfInBounds_toArray, List.set_cons_zero, List.set_cons_succ]
              refine held_take 8 (.slice (some ⟨b, off, none⟩) n cp) (HSS.out _ WK.out.only) rfl (by kernel_rfl) (by kernel_rfl) (by kernel_rfl) (fun _ _ _ h => h) (by rfl) (fun w hw => by go_simp) ?_
              simp only [Act.put, List.setIfInBounds_toArray, List.set_cons_zero, List.set_cons_succ]
              refine held_take 9 (.int .i64 (k : Int)) (HSS.out _ WK.out.only) rfl (by kernel_rfl) (by kernel_rfl) (by kernel_rfl) (fun _ _ _ h => h) (by rfl) (fun w hw => by go_simp) ?_
              simp only [Act.put, List.setIfInBounds_toArray, List.set_cons_zero, List.set_cons_succ]
              refine held_take 10 (.pointer (some ⟨b, off + k * 4, none⟩)) (HSS.out _ WK.out.only) rfl (by kernel_rfl) (by kernel_rfl) (by kernel_rfl) (fun _ _ _ h => h) (by rfl) (fun w hw => by have j0 := HI.out.1; have j1 := HI.out.2; go_simp) ?_
              simp only [Act.put, List.setIfInBounds_toArray, List.set_cons_zero, List.set_cons_succ]
              refine held_take 11 (.pointer (some ⟨b, off + k * 4 + 2, none⟩)) (HSS.out _ WK.out.only) rfl (by kernel_rfl) (by kernel_rfl) (by kernel_rfl) (fun _ _ _ h => h) (by rfl) (fun w hw => by go_simp) ?_
              simp only [Act.put, List.setIfInBounds_toArray, List.set_cons_zero, List.set_cons_succ]
              refine held_take 12 (.int .u8 (w8 : Int)) (HSS.out _ WK.out.only) rfl (by kernel_rfl) (by kernel_rfl) (by kernel_rfl) (fun _ _ _ h => h) (by rfl) (fun w hw => by have cl : w.cell? ⟨b, off + k * 4 + 2, none⟩ = some (.int .u8 (w8 : Int)) := hw.2; go_simp) ?_
              simp only [Act.put, List.setIfInBounds_toArray, List.set_cons_zero, List.set_cons_succ]
              refine held_take 13 (.int .u8 (r2 : Int)) (HSS.out _ WK.out.only) rfl (by kernel_rfl) (by kernel_rfl) (by kernel_rfl) (fun _ _ _ h => h) (by rfl) (fun w hw => yields_rem5 w rfl rfl rfl (by decide) HA.out.a2.1 HA.out.a2.2.1) ?_
              simp only [Act.put, List.setIfInBounds_toArray, List.set_cons_zero, List.set_cons_succ]
              refine held_take 14 (.bool lb) (HSS.out _ WK.out.only) rfl (by kernel_rfl) (by kernel_rfl) (by kernel_rfl) (fun _ _ _ h => h) (by rfl) (fun w hw => yields_eql5 w rfl rfl rfl HA.out.a2.2.2) ?_
              simp only [Act.put, List.setIfInBounds_toArray, List.set_cons_zero, List.set_cons_succ]
              refine held_take 15 (.slice (some ⟨b, off, none⟩) n cp) (HSS.out _ WK.out.only) rfl (by kernel_rfl) (by kernel_rfl) (by kernel_rfl) (fun _ _ _ h => h) (by rfl) (fun w hw => by go_simp) ?_
              simp only [Act.put, List.setIfInBounds_toArray, List.set_cons_zero, List.set_cons_succ]
              refine held_take 16 (.int .i64 (k : Int)) (HSS.out _ WK.out.only) rfl (by kernel_rfl) (by kernel_rfl) (by kernel_rfl) (fun _ _ _ h => h) (by rfl) (fun w hw => by go_simp) ?_
              simp only [Act.put, List.setIfInBounds_toArray, List.set_cons_zero, List.set_cons_succ]
              refine held_take 17 (.pointer (some ⟨b, off + k * 4, none⟩)) (HSS.out _ WK.out.only) rfl (by kernel_rfl) (by kernel_rfl) (by kernel_rfl) (fun _ _ _ h => h) (by rfl) (fun w hw => by have j0 := HI.out.1; have j1 := HI.out.2; go_simp) ?_
              simp only [Act.put, List.setIfInBounds_toArray, List.set_cons_zero, List.set_cons_succ]
              refine held_take 18 (.pointer (some ⟨b, off + k * 4 + 2, none⟩)) (HSS.out _ WK.out.only) rfl (by kernel_rfl) (by kernel_rfl) (by kernel_rfl) (fun _ _ _ h => h) (by rfl) (fun w hw => by go_simp) ?_
              simp only [Act.put, List.setIfInBounds_toArray, List.set_cons_zero, List.set_cons_succ]
              refine held_take 19 (.int .u8 (w8 : Int)) (HSS.out _ WK.out.only) rfl (by kernel_rfl) (by kernel_rfl) (by kernel_rfl) (fun _ _ _ h => h) (by rfl) (fun w hw => by have cl : w.cell? ⟨b, off + k * 4 + 2, none⟩ = some (.int .u8 (w8 : Int)) := hw.2; go_simp) ?_
              simp only [Act.put, List.setIfInBounds_toArray, List.set_cons_zero, List.set_cons_succ]
              refine held_take 20 (.int .i64 (w8 : Int)) (HSS.out _ WK.out.only) rfl (by kernel_rfl) (by kernel_rfl) (by kernel_rfl) (fun _ _ _ h => h) (by rfl) (fun w hw => yields_conv53 w rfl rfl HA.out.a3.1) ?_
              simp only [Act.put, List.setIfInBounds_toArray, List.set_cons_zero, List.set_cons_succ]
              refine held_take 21 (.int .i64 (r3 : Int)) (HSS.out _ WK.out.only) rfl (by kernel_rfl) (by kernel_rfl) (by kernel_rfl) (fun _ _ _ h => h) (by rfl) (fun w hw => yields_rem w rfl rfl rfl (by decide) HA.out.a3.2.1 HA.out.a3.2.2) ?_
              simp only [Act.put, List.setIfInBounds_toArray, List.set_cons_zero, List.set_cons_succ]
              refine held_take 22 (.int .i64 (x3 : Int)) (HSS.out _ WK.out.only) rfl (by kernel_rfl) (by kernel_rfl) (by kernel_rfl) (fun _ _ _ h => h) (by rfl) (fun w hw => yields_mul w rfl rfl rfl HA.out.a4.1 HA.out.a4.2.1) ?_
              simp only [Act.put, List.setIfInBounds_toArray, List.set_cons_zero, List.set_cons_succ]
              refine held_take 23 (.int .i64 (L : Int)) (HSS.out _ WK.out.only) rfl (by kernel_rfl) (by kernel_rfl) (by kernel_rfl) (fun _ _ _ h => h) (by rfl) (fun w hw => yields_quo w rfl rfl rfl (by decide) HA.out.a4.2.2.1 HA.out.a4.2.2.2) ?_
              simp only [Act.put, List.setIfInBounds_toArray, List.set_cons_zero, List.set_cons_succ]
              refine held_two (i := 24) (j := 26) rfl rfl (by kernel_rfl) (by rfl) (by rfl) (fun K hK => ?_) (fun K hK => ?_)
              · skip
                obtain ⟨wm, hm, hvm, om, lm⟩ := make34 L wk (by have := HA.out.l; omega)
                go_simp
                have WK' := WK.out.make hvm om (fun j hj => by injection hj with hj; have hj : wk.heap.size = j := hj; omega)
                refine hK _ _ (HSS.out _ WK'.only) ?_
                obtain ⟨gz, hgz⟩ : ∃ gz, gz = wk.heap.size := ⟨_, rfl⟩
                rw [← hgz] at WK' ⊢
                clear hK K hm hvm om lm hgz WK wk
                have WK := Lib.hid WK'
                clear WK'
                rename World => wk
                refine held_take 25 (.agg #[.int .i64 (pn : Int), .bool lb, .slice (some ⟨gz, 0, none⟩) L L]) (HSS.out _ WK.out.only) rfl (by kernel_rfl) (by kernel_rfl) (by kernel_rfl) (fun _ _ _ h => h) (by rfl) (fun w hw => by go_simp) ?_
                simp only [Act.put, List.setIfInBounds_toArray, List.set_cons_zero, List.set_cons_succ]
                refine held_one (i := 26) rfl (by kernel_rfl) (by rfl) fun K hK => ?_
                go_simp
                have WK' := WK.out.alloc83
                refine hK _ _ (HSS.out _ WK'.only) ?_
                obtain ⟨T, hT⟩ : ∃ T, T = wk.heap.size := ⟨_, rfl⟩
                obtain ⟨wm, hwm⟩ : ∃ z, z = wk.alloc (.cells #[.int .i64 0, .bool false, .slice none 0 0] 83) := ⟨_, rfl⟩
                change wpAnyH _ _ _ _ _ _ _ _ (wk.alloc (.cells #[.int .i64 0, .bool false, .slice none 0 0] 83))
                rw [← hT, ← hwm] at WK'
                rw [← hT, ← hwm]
                clear hK K hT hwm WK wk
                have WK := Lib.hid WK'
                clear WK'
                rename World => wk
                refine held_one (i := 27) rfl (by kernel_rfl) (by rfl) fun K hK => ?_
                refine wp_store_mid 83 _ _ rfl T 0 #[.int .i64 (pn : Int), .bool lb, .slice (some ⟨gz, 0, none⟩) L L] rfl rfl WK.out.there (by rw [info83s]; rfl) (by simp [Value.oneCell']) ?_
                have HM := Lib.hid (WK.out.made (pn : Int) lb)
                refine hK _ _ (HSS.out _ HM.out.only) ?_
                clear hK K
                refine held_done (by kernel_rfl) ?_ _
                go_wp2_with fail
                go_meet
                exact ⟨T, gz, rfl, HM.out⟩
              · skip
                go_simp
                have WK' := WK.out.alloc83
                refine hK _ _ (HSS.out _ WK'.only) ?_
                obtain ⟨T, hT⟩ : ∃ T, T = wk.heap.size := ⟨_, rfl⟩
                obtain ⟨wm, hwm⟩ : ∃ z, z = wk.alloc (.cells #[.int .i64 0, .bool false, .slice none 0 0] 83) := ⟨_, rfl⟩
                change wpAnyH _ _ _ _ _ _ _ _ (wk.alloc (.cells #[.int .i64 0, .bool false, .slice none 0 0] 83))
                rw [← hT, ← hwm] at WK'
                rw [← hT, ← hwm]
                clear hK K hT hwm WK wk
                have WK := Lib.hid WK'
                clear WK'
                rename World => wk
                refine held_one (i := 24) rfl (by kernel_rfl) (by rfl) fun K hK => ?_
                obtain ⟨wm, hm, hvm, om, lm⟩ := make34 L wk (by have := HA.out.l; omega)
                go_simp
                have WK' := WK.out.make hvm om (fun j hj => by injection hj with hj; have hj : wk.heap.size = j := hj; omega)
                refine hK _ _ (HSS.out _ WK'.only) ?_
                obtain ⟨gz, hgz⟩ : ∃ gz, gz = wk.heap.size := ⟨_, rfl⟩
                rw [← hgz] at WK' ⊢
                clear hK K hm hvm om lm hgz WK wk
                have WK := Lib.hid WK'
                clear WK'
                rename World => wk
                refine held_take 25 (.agg #[.int .i64 (pn : Int), .bool lb, .slice (some ⟨gz, 0, none⟩) L L]) (HSS.out _ WK.out.only) rfl (by kernel_rfl) (by kernel_rfl) (by kernel_rfl) (fun _ _ _ h => h) (by rfl) (fun w hw => by go_simp) ?_
                simp only [Act.put, List.setIfInBounds_toArray, List.set_cons_zero, List.set_cons_succ]
                refine held_one (i := 27) rfl (by kernel_rfl) (by rfl) fun K hK => ?_
                refine wp_store_mid 83 _ _ rfl T 0 #[.int .i64 (pn : Int), .bool lb, .slice (some ⟨gz, 0, none⟩) L L] rfl rfl WK.out.there (by rw [info83s]; rfl) (by simp [Value.oneCell']) ?_
                have HM := Lib.hid (WK.out.made (pn : Int) lb)
                refine hK _ _ (HSS.out _ HM.out.only) ?_
                clear hK K
                refine held_done (by kernel_rfl) ?_ _
                go_wp2_with fail
                go_meet
                exact ⟨T, gz, rfl, HM.out⟩
            case rest =>
              obtain ⟨T, gz, rfl, hM⟩ := hcut
              have HM := Lib.hid hM
              have t0 := hM.cells.is 0 _ rfl
              have t1 := hM.cells.is 1 _ rfl
              have t2 := hM.cells.is 2 _ rfl
              have hsec := docsector_any wc ⟨pn, lb, List.replicate L 0⟩ (by have := HA.out.pn30; show pn ≤ _; omega) (by rw [List.length_replicate]; exact HA.out.l) (.slice (some ⟨gz, 0, none⟩) L L) (by
                have h := hM.vec.rd
                show Rd wc 1 _ (List.replicate L 0).length (bv (List.replicate L 0))
                rw [List.length_replicate]
                exact h)
              obtain ⟨lay, hlay⟩ : ∃ l, l = Pc.lay ⟨pn, lb, List.replicate L 0⟩ := ⟨_, rfl⟩
              have hl512 : lay.length = 512 := by rw [hlay]; exact Pc.lay_length _ (by rw [List.length_replicate]; exact HA.out.l)
              rw [← hlay] at hsec
              have HSEC := Lib.hid hsec
              have HL5 := Lib.hid hl512
              clear hM hsec hlay hl512
              go_wp2_with fail
              refine HSEC.out.mono ?_
              rintro e w5 ⟨gs, rfl, hv5, hg5, o5⟩
              have k2 := (HSS.out w5 (HM.out.only.trans o5)).2
              have HV5 := Lib.hid (And.intro hv5 (And.intro hg5 o5))
              have a51 := HA.out.a5.1
              have a52 := HA.out.a5.2.1
              have a53 := HA.out.a5.2.2
              clear hv5 hg5 o5 t0 t1 t2 HSEC
              go_upto_if 279 with fail
              go_cut [] from 280 to 286 (fun wx => ∃ s : Sec, Hid (s.length = 512 ∧ Vec wx 1 (.slice (some ⟨gs, 0, none⟩) 512 512) 512 (bv s) ∧ Only (fun j => j = gs) w5 wx))
              case first =>
                by_cases h5 : r5 = 0
                · have e1 : ((r5 : Int) == 0) = true := by simp; omega
                  have e2 : (r5 == 0) = true := by simpa using h5
                  have f := HV5.out.1.free0 (k := 511) (by decide)
                  obtain ⟨u, hu⟩ := Option.isSome_iff_exists.1 f.1
                  have f2 := f.2
                  clear h5 f
                  go_wp2_with fail
                  go_meet
                  have h7 := HV5.out.1.set1 (k := 511) (by decide) (.int .u8 (wh.toNat : Int))
                  rw [bv_set, ← HW8.out] at h7
                  exact ⟨lay.set 511 wh, Lib.hid ⟨by rw [List.length_set]; exact HL5.out, h7, (Only.refl (fun j => j = gs) w5).setCell (p := ⟨gs, 511, none⟩) rfl _⟩⟩
                · have e1 : ((r5 : Int) == 0) = false := by simp; omega
                  have e2 : (r5 == 0) = false := by simpa using h5
                  clear h5
                  go_wp2_with fail
                  go_meet
                  exact ⟨lay, Lib.hid ⟨HL5.out, HV5.out.1, Only.refl _ _⟩⟩
              case rest =>
                obtain ⟨s, HS5⟩ := hcut
                have hz : ∃ Z : Nat → Prop, Rp w wc first count R X D F Z r d r (gAt first d) xa xc (12 * k) ∧ (∀ j, Z j → j < wc.heap.size) ∧ Z gs := by
                  have q1 := HM.out.only.size
                  have q2 := HV5.out.2.1
                  have q3 := HS5.out.2.2.size
                  have q4 : gs < w5.heap.size := HV5.out.1.lt rfl
                  refine ⟨fun j => j = gs, ((HL.out.avoid (Z' := fun j => j = gs) fun j h => by omega).only (HM.out.only.trans HV5.out.2.2)).aside HS5.out.2.2, fun j h => by omega, rfl⟩
                obtain ⟨Z, hZ⟩ := hz
                have HZ := Lib.hid hZ
                obtain ⟨fi, hfi⟩ : ∃ fi, fi = first + i := ⟨_, rfl⟩
                have a1 : (first : Int) + (i : Int) = (fi : Int) := by omega
                have HFI := Lib.hid hfi
                have a2 : wrap64 (fi : Int) = (fi : Int) := IntWalk.wrap64_in _ (by have := HC.out; have := HIL.out; omega)
                clear k2 a51 a52 a53 hZ hfi
                go_wp2_with fail
                refine (HZ.out.1.write (by have := HK.out; omega) HZ.out.2.1 HIL.out (k := (fi : Int)) (by rw [HFI.out]) HS5.out.2.1.rd (fun j hj => by injection hj with hj; have hj : gs = j := hj; rw [← hj]; exact HZ.out.2.2) HS5.out.1).mono ?_
                rintro e w8' ⟨rfl, F', d', hrp, hg, kp⟩
                obtain ⟨ga, oa', ca, x0, ea, -, -, -, -, hga⟩ := hrp.s.at_ (j := 0) (by rw [secs_length]; exact HC.out.1)
                rw [secs_length] at ea
                injection ea with ea _ e3
                subst ea
                subst e3
                have hV8 : Vec w8' 1 (.slice (some ⟨gs, 0, none⟩) 512 512) 512 (bv s) := HS5.out.2.1.only kp.only fun j hj e => by
                  injection hj with hj
                  have hj : gs = j := hj
                  subst hj
                  exact HZ.out.1.zf _ e HZ.out.2.2
                have hnew := hrp.xset HIL.out HS5.out.1 hV8 fun j hj => by injection hj with hj; have hj : gs = j := hj; rw [← hj]; exact HZ.out.2.2
                rw [← hg] at hnew
                have HX5 := Lib.hid hnew
                have HP5 := Lib.hid hrp
                have x0' := hrp.x.is 0 _ rfl
                have x1' := hrp.x.is 1 _ rfl
                have xga : ¬ X = ga := fun e => hga.2.1 e.symm
                have xga' : ¬ ga = X := fun e => hga.2.1 e
                have hfree : (w8'.cell? ⟨ga, oa' + i, none⟩).isSome = true ∧ w8'.frozen? ⟨ga, oa' + i, none⟩ = false := by
                  obtain ⟨_, xs, h2, _⟩ := hrp.s
                  rw [secs_length] at h2
                  exact h2.free (k := i) (by have := HIL.out; omega)
                obtain ⟨u, hu⟩ := Option.isSome_iff_exists.1 hfree.1
                have hfr := hfree.2
                have j0 : (0 : Int) ≤ (i : Int) := by omega
                have j1 : (i : Int) < (count : Int) := by have := HIL.out; omega
                have HBS := Lib.hid (show r.base ≤ 4611686018427387904 by have := HL.out.xo; exact Nat.le_trans this.bl (Nat.le_trans this.lt this.top))
                clear hnew hrp hg kp hga hV8 hfree a1 a2
                go_wp2_with fail
                refine (HX5.out.reopen (by have := HK.out; omega) (base := r.base) HBS.out).mono ?_
                rintro e w9 ⟨R', va, m, vc, rfl, hm, hrp, hrec⟩
                have hz : ∃ Z : Nat → Prop, Rp w w9 first count R' X D F' Z (Rg.opened first count r.base (gAt first d')) d' r (gAt first d') (some ⟨ga, oa', none⟩) xc (12 * k + 12) ∧ Recs w9 Z (.slice va m vc) (runG count (gAt first d') count r.base [] [] r.base).1 ∧ (∀ j, Z j → j < w9.heap.size) := ⟨_, hrp, hrec, fun j h => h.2.1⟩
                obtain ⟨Z2, hZ2⟩ := hz
                have HR := Lib.hid hZ2
                have y0 := HR.out.1.x.is 0 _ rfl
                clear hm hrp hrec hZ2 x0' x1' hu hfr j0 j1
                go_wp2_with fail
                refine (HR.out.1.xreopen HR.out.2.2 (base := r.base) HBS.out).mono ?_
                rintro e w10 ⟨X', xa', xc', va', m', vc', rfl, hm', hrp2, hrec2, o6⟩
                have HS := Lib.hid (same_any (HR.out.2.1.only o6 fun _ _ e => e) hrec2)
                have HP2 := Lib.hid hrp2
                clear hm' hrp2 hrec2 o6 y0
                go_wp2_with fail
                refine HS.out.mono ?_
                rintro e w11 ⟨rfl, q7, rfl⟩
                have HJ0 := Lib.hid (HP2.out.only ((Only.refl None' _).drewN q7))
                clear HS HP2
                go_wp2_with fail
                go_meet
                exact ⟨R', X', F', _, d', xa', xc', rfl, rfl, Lib.hid (HJ0.out.free.few (by omega))⟩
        have q5i : ((kn : Int) == 5) = false := by simp; omega
        have q5n : (kn == 5) = false := by simpa using q5
        as_aux_lemma =>
          clear q0 q1 q2 q3 q4 q5
          go_wp2_with fail
          go_meet
          exact ⟨R, X, F, r, d, xa, xc, rfl, rfl, Lib.hid (HL.out.few (by omega))⟩
      case rest =>
        obtain ⟨R', X', F', r', d', xa', xc', rfl, rfl, HL2⟩ := hcut
        clear HL k0 k1 k2 k3
        as_aux_lemma =>
          go_wp2_with fail
          refine HL2.out.tells.mono ?_
          rintro e w5 ⟨rfl, q, rfl⟩
          have HL3 := Lib.hid (HL2.out.only ((Only.refl None' _).drewN q))
          go_wp2_with fail
          refine (HL3.out.secs_ (by have := HK.out; omega)).mono ?_
          rintro e w6 ⟨va6, vc6, rfl, hv6, o6⟩
          have HL4 := Lib.hid (HL3.out.only o6)
          have HS := Lib.hid (same_any hv6 HL4.out.s)
          have x0 := HL4.out.x.is 0 _ rfl
          clear hv6 o6
          go_wp2_with fail
          refine HS.out.mono ?_
          rintro e w7 ⟨rfl, q7, rfl⟩
          have HL5 := Lib.hid (HL4.out.only ((Only.refl None' _).drewN q7))
          go_wp2_with fail
          go_roundw
          case rel => exact ⟨k + 1, R', X', F', r', d', xa', xc', by have := HK.out; omega, by have := HK.out; omega, rfl, rfl, by go_num, HL5⟩
          case measure => have := HK.out; simp only [intOf]; omega
    · by_cases hkn : k < n
      · have i1 : (k : Int) < (n : Int) := by omega
        have i2 : ¬ (k : Int) < 40 := by omega
        clear hlt hk hk40 hkn
        go_wp2_with fail
        refine (awake_any _).mono ?_
        rintro e w5 ⟨rfl, o5⟩
        have O5 := Lib.hid (HL.out.rk.dsk.only.trans o5)
        clear o5
        go_wp2_with fail
        go_ret
        exact ⟨rfl, O5.out.below (Nat.le_refl _) fun _ e => e.elim⟩
      · have i1 : ¬ (k : Int) < (n : Int) := by omega
        clear hlt hk hk40 hkn
        go_wp2_with fail
        refine (awake_any _).mono ?_
        rintro e w5 ⟨rfl, o5⟩
        have O5 := Lib.hid (HL.out.rk.dsk.only.trans o5)
        clear o5
        go_wp2_with fail
        go_ret
        exact ⟨rfl, O5.out.below (Nat.le_refl _) fun _ e => e.elim⟩
end Go.Proofs.Yteoeaojebklfjaa
namespace Go.Proofs.Yteoeaojebklfjaa
open Go.RowKit Go.Maps
theorem rplays_walk (f c b : Int) (a : Option Addr) (n cp : Nat) (ss : List Rst) (w : World) (PP : Rsts w a n ss) : Calls Try.prog 10 #[.int .i64 f, .int .i64 c, .int .i64 b, .slice a n cp] w fun e w' => e = .returned (.bool true) ∧ Below w.heap.size w w' := by
  by_cases h : OpenBad 12 f c b
  · exact rplays_bad f c b a n cp w h
  · unfold OpenBad at h
    obtain ⟨first, rfl⟩ : ∃ x : Nat, f = (x : Int) := ⟨f.toNat, by omega⟩
    obtain ⟨count, rfl⟩ : ∃ x : Nat, c = (x : Int) := ⟨c.toNat, by omega⟩
    obtain ⟨base, rfl⟩ : ∃ x : Nat, b = (x : Int) := ⟨b.toNat, by omega⟩
    exact rplays_good first count base a n cp ss w PP (by omega) (by omega) (by omega)
end Go.Proofs.Yteoeaojebklfjaa
