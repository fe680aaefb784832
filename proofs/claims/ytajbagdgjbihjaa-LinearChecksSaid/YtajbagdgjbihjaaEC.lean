/- The document's Of (22): the walk. -/
import Derived.Test.YtajbagdgjbihjaaEB
namespace Go.Proofs.Ytajbagdgjbihjaa
open Go.RowKit Go.Maps Go.Sort
set_option linter.unusedVariables false

set_option maxRecDepth 20000 in
set_option maxHeartbeats 1000000 in
theorem dof_any {w : World} {v : Value} {l : List Ev} (h : ER w v l) (hl : l.length ≤ 150) (key : ByteArray) : Calls Try.prog 22 #[v, .string key] w fun e w' => ∃ v', e = .returned v' ∧ Vec w' 12 v' (ofl key l).length ((ofl key l).flatMap Ev.row) ∧ (∀ g, v'.ownBlock = some g → w.heap.size ≤ g) ∧ Only None' w w' := by
  obtain ⟨a, k, rfl⟩ := h.shape
  have H := Lib.hid h
  obtain ⟨n, hn⟩ : ∃ n, n = l.length := ⟨_, rfl⟩
  have HL := Lib.hid (And.intro hn hl)
  obtain ⟨w1, hmk, hv1, o1, hs1⟩ := make80 n w (by omega)
  obtain ⟨z31, hz31, hzs31⟩ := zero31
  have HB31 := Lib.hid t31_bytes
  obtain ⟨B, hB⟩ : ∃ B, B = w.heap.size := ⟨_, rfl⟩
  rw [← hB] at hmk hv1
  have M0 : Hid (MR w w1 B n (List.replicate n false) ∧ Marks key l 0 (List.replicate n false)) := Lib.hid ⟨⟨o1, hv1, by omega⟩, by rw [hn]; exact Marks.zero⟩
  rw [← hn] at H ⊢
  clear h hn hl hv1 o1 hs1 hB
  go_enter Try.func22, Try.ntmps22
  go_wp2_with fail
  go_loopw [6] (fun i wr => ∃ (j : Nat) (U : List Bool), j ≤ n ∧ i = .int .i64 (j : Int) ∧ Hid (MR w wr B n U ∧ Marks key l j U)) (fun i wr => n - (intOf i).toNat)
  case atStart => exact ⟨0, _, by omega, rfl, M0⟩
  case round =>
    clear M0 hmk
    obtain ⟨j, U, hj, rfl, HI⟩ := hrel
    by_cases hlt : j < n
    · have hjl : j < l.length := by have := HL.out.1; omega
      have RV := H.out.only HI.out.1.only fun _ _ e => e
      obtain ⟨g, off, cp, e, hg, hcell⟩ := RV.at_ hjl
      injection e with e e2 e3
      subst e
      clear e2 e3 RV
      obtain ⟨x, hx⟩ : ∃ x, x = l[j] := ⟨_, rfl⟩
      rw [← hx] at hcell
      have HX : Hid (l[j]? = some x) := Lib.hid (by rw [hx]; exact List.getElem?_eq_getElem hjl)
      clear hx
      obtain ⟨z1, z2, z3, z4, z5, z6, z7, z8, z9, za, zb, zc⟩ := x
      have y0 := hcell 0 _ rfl
      have y1 := hcell 1 _ rfl
      have y3 := hcell 3 _ rfl
      have y5 := hcell 5 _ rfl
      rw [Nat.add_zero] at y0
      simp only at y0 y1 y3 y5
      have hgw := H.out.lt
      have HC0 : Hid (w.cell? ⟨g, off + j * 12, none⟩ = some (.int .i64 z1)) := Lib.hid (by rw [← HI.out.1.only.cell hgw (fun e => e)]; exact y0)
      have HC1 : Hid (w.cell? ⟨g, off + j * 12 + 1, none⟩ = some (.int .i64 z2)) := Lib.hid (by rw [← HI.out.1.only.cell hgw (fun e => e)]; exact y1)
      clear y0 y1
      have i0 : (0 : Int) ≤ (j : Int) := by omega
      have i1 : (j : Int) < (n : Int) := by omega
      have HLT := Lib.hid hlt
      obtain ⟨hit, hhit⟩ : ∃ t, (z6.toList == key.toList) = t := ⟨_, rfl⟩
      have hne : (z6.toList != key.toList) = !hit := by rw [← hhit]; rfl
      have HHIT := Lib.hid hhit
      obtain ⟨fr1, fr2⟩ := HI.out.1.row.free0 (k := j) (by omega)
      clear fr1
      obtain ⟨b0, hb0⟩ : ∃ b0, U[j]? = some b0 := ⟨_, List.getElem?_eq_getElem (by have := HI.out.2.1; omega)⟩
      have fr1 := HI.out.1.at_ hb0
      clear hb0
      clear hlt hj hjl hcell hg
      cases z4 with
      | true =>
        go_wp2_with fail
        go_roundw
        case rel => exact ⟨j + 1, U, by have := HLT.out; omega, next_int (by have := HL.out; have := HLT.out; omega), Lib.hid ⟨HI.out.1, HI.out.2.miss HX.out (Or.inl rfl)⟩⟩
        case measure => exact meas HLT.out (by have := HL.out; omega)
      | false =>
        cases hit with
        | false =>
          go_wp2_with fail
          go_roundw
          case rel => exact ⟨j + 1, U, by have := HLT.out; omega, next_int (by have := HL.out; have := HLT.out; omega), Lib.hid ⟨HI.out.1, HI.out.2.miss HX.out (Or.inr HHIT.out)⟩⟩
          case measure => exact meas HLT.out (by have := HL.out; omega)
        | true =>
          go_upto_region 7 with fail
          obtain ⟨w2, hw2⟩ : ∃ w2, w2 = wr.setCell ⟨B, j, none⟩ (.bool true) := ⟨_, rfl⟩
          have HM2 : Hid (MR w w2 B n (U.set j true) ∧ Amid key l j (j + 1) (U.set j true)) := Lib.hid (by rw [hw2]; exact ⟨HI.out.1.set HLT.out true, HI.out.2.start⟩)
          rw [← hw2]
          clear hw2 fr1 fr2 y3 y5 hhit hne
          go_wp2_with fail
          go_loopw [7] (fun i wq => ∃ (c : Nat) (V : List Bool), j < c ∧ c ≤ n ∧ i = .int .i64 (c : Int) ∧ Hid (MR w wq B n V ∧ Amid key l j c V)) (fun i wq => n - (intOf i).toNat)
          case atStart => exact ⟨j + 1, _, by omega, by have := HLT.out; omega, next_int (by have := HL.out; have := HLT.out; omega), HM2⟩
          case round =>
            rename World => wx
            clear HM2
            obtain ⟨c, V, hjc, hc, rfl, HK⟩ := hrel
            by_cases hcm : c < n
            · have hcl : c < l.length := by have := HL.out.1; omega
              have RV := H.out.only HK.out.1.only fun _ _ e => e
              obtain ⟨g', off', cp', e, hg', hcell⟩ := RV.at_ hcl
              injection e with e e2 e3
              injection e with e
              injection e with e e'
              subst e e'
              clear e2 e3 RV hg'
              obtain ⟨y, hy⟩ : ∃ y, y = l[c] := ⟨_, rfl⟩
              rw [← hy] at hcell
              have HY : Hid (l[c]? = some y) := Lib.hid (by rw [hy]; exact List.getElem?_eq_getElem hcl)
              clear hy
              obtain ⟨x1, x2, x3, x4, x5, x6, x7, x8, x9, xa, xb, xc⟩ := y
              have k0 := hcell 0 _ rfl
              have k1 := hcell 1 _ rfl
              have k3 := hcell 3 _ rfl
              rw [Nat.add_zero] at k0
              simp only at k0 k1 k3
              have y0 := (HK.out.1.only.cell hgw (fun e => e) _).trans HC0.out
              have y1 := (HK.out.1.only.cell hgw (fun e => e) _).trans HC1.out
              have c0 : (0 : Int) ≤ (c : Int) := by omega
              have c1 : (c : Int) < (n : Int) := by omega
              have HCM := Lib.hid (And.intro hjc hcm)
              obtain ⟨fr1, fr2⟩ := HK.out.1.row.free0 (k := c) (by omega)
              clear fr1
              obtain ⟨b1, hb1⟩ : ∃ b1, V[c]? = some b1 := ⟨_, List.getElem?_eq_getElem (by have := HK.out.2.1; omega)⟩
              have fr1 := HK.out.1.at_ hb1
              clear hb1
              obtain ⟨t1, ht1⟩ : ∃ t, (x1 == z1) = t := ⟨_, rfl⟩
              obtain ⟨t2, ht2⟩ : ∃ t, (x2 == z2) = t := ⟨_, rfl⟩
              have HT := Lib.hid (And.intro ht1 ht2)
              clear hcl hcell hcm hjc hc
              cases x4 with
              | false =>
                clear ht1 ht2
                go_wp2_with fail
                go_quiet (fail)
                go_wp2_with fail
                go_roundw
                case rel => exact ⟨c + 1, V, by have := HCM.out; omega, by have := HCM.out; omega, next_int (by have := HL.out; have := HCM.out; omega), Lib.hid ⟨HK.out.1.drewN _, HK.out.2.next HX.out HY.out (Or.inl rfl)⟩⟩
                case measure => exact meas HCM.out.2 (by have := HL.out; omega)
              | true =>
                cases t1 with
                | false =>
                  clear ht2
                  go_wp2_with fail
                  go_quiet (fail)
                  go_wp2_with fail
                  go_roundw
                  case rel => exact ⟨c + 1, V, by have := HCM.out; omega, by have := HCM.out; omega, next_int (by have := HL.out; have := HCM.out; omega), Lib.hid ⟨HK.out.1.drewN _, HK.out.2.next HX.out HY.out (Or.inr fun e => by have h1 := HT.out.1; have h2 : x1 = z1 := congrArg Prod.fst e; simp [h2] at h1)⟩⟩
                  case measure => exact meas HCM.out.2 (by have := HL.out; omega)
                | true =>
                  cases t2 with
                  | false =>
                    go_wp2_with fail
                    go_quiet (fail)
                    go_wp2_with fail
                    go_roundw
                    case rel => exact ⟨c + 1, V, by have := HCM.out; omega, by have := HCM.out; omega, next_int (by have := HL.out; have := HCM.out; omega), Lib.hid ⟨HK.out.1.drewN _, HK.out.2.next HX.out HY.out (Or.inr fun e => by have h1 := HT.out.2; have h2 : x2 = z2 := congrArg Prod.snd e; simp [h2] at h1)⟩⟩
                    case measure => exact meas HCM.out.2 (by have := HL.out; omega)
                  | true =>
                    go_wp2_with fail
                    go_quiet (fail)
                    go_wp2_with fail
                    go_roundw
                    case rel => exact ⟨j + 1, V.set c true, by have := HLT.out; omega, next_int (by have := HL.out; have := HLT.out; omega), Lib.hid ⟨(HK.out.1.drewN _).set HCM.out.2 true, HK.out.2.first HCM.out.1 HX.out rfl HHIT.out HY.out rfl (Prod.ext (beq_iff_eq.1 HT.out.1) (beq_iff_eq.1 HT.out.2))⟩⟩
                    case measure => exact meas HLT.out (by have := HL.out; omega)
            · obtain rfl : c = n := by omega
              go_wp2_with fail
              go_roundw
              case rel => exact ⟨j + 1, V, by have := HLT.out; omega, next_int (by have := HL.out; have := HLT.out; omega), Lib.hid ⟨HK.out.1, by have h2 := HK.out.2; have h1 := HL.out.1; exact Amid.none (by rw [← h1]; exact h2) HX.out rfl HHIT.out⟩⟩
              case measure => exact meas HLT.out (by have := HL.out; omega)
    · obtain rfl : n = j := by omega
      have HU := Lib.hid HI.out.2
      have P0 : Hid (PR w wr B n U key l 0 (.slice none 0 0)) := Lib.hid ⟨HI.out.1, by simpa [ofl, picked] using Vec.nil _ _, fun g hg => (by cases hg), HI.out.1.row.lt rfl⟩
      go_wp2_with fail
      go_loopw [8, 9] (fun o i wq => ∃ (c m : Nat) (oa : Option Addr) (oc : Nat), c ≤ n ∧ o = .slice oa m oc ∧ i = .int .i64 (c : Int) ∧ Hid (m = (ofl key (l.take c)).length ∧ PR w wq B n U key l c (.slice oa m oc))) (fun o i wq => n - (intOf i).toNat)
      case atStart => exact ⟨0, 0, none, 0, by omega, rfl, rfl, Lib.hid ⟨by simp [ofl, picked], P0.out⟩⟩
      case round =>
        rename World => wx
        clear P0
        obtain ⟨c, m, oa, oc, hc, rfl, rfl, HK⟩ := hrel
        by_cases hcm : c < n
        · have hjl : c < l.length := by have := HL.out.1; omega
          have RV := H.out.only HK.out.2.mr.only fun _ _ e => e
          obtain ⟨g, off, cp, e, hg, hcell⟩ := RV.at_ hjl
          injection e with e e2 e3
          subst e
          clear e2 e3 RV
          obtain ⟨x, hx⟩ : ∃ x, x = l[c] := ⟨_, rfl⟩
          rw [← hx] at hcell
          have HX : Hid (l[c]? = some x) := Lib.hid (by rw [hx]; exact List.getElem?_eq_getElem hjl)
          clear hx
          have HM : Hid (m ≤ 150) := Lib.hid (by
            have h1 := ofl_len (key := key) (l := l) c (by omega)
            have := HK.out.1
            have := HL.out
            omega)
          obtain ⟨b0, hb0⟩ : ∃ b0, U[c]? = some b0 := ⟨_, List.getElem?_eq_getElem (by have := HU.out.1; omega)⟩
          have k0 := HK.out.2.mr.at_ hb0
          have HS : Hid (b0 = (if x.back then opn key (l.take c) x.who else x.hit key)) := Lib.hid (by
            have h1 := HU.out
            rw [HL.out.1] at h1
            exact h1.sel hb0 HX.out)
          obtain ⟨z1, z2, z3, z4, z5, z6, z7, z8, z9, za, zb, zc⟩ := x
          have y0 := hcell 0 _ rfl
          have y1 := hcell 1 _ rfl
          have y2 := hcell 2 _ rfl
          have y3 := hcell 3 _ rfl
          have y4 := hcell 4 _ rfl
          have y5 := hcell 5 _ rfl
          have y6 := hcell 6 _ rfl
          have y7 := hcell 7 _ rfl
          have y8 := hcell 8 _ rfl
          have y9 := hcell 9 _ rfl
          have y10 := hcell 10 _ rfl
          have y11 := hcell 11 _ rfl
          rw [Nat.add_zero] at y0
          simp only at y0 y1 y2 y3 y4 y5 y6 y7 y8 y9 y10 y11
          have i0 : (0 : Int) ≤ (c : Int) := by omega
          have i1 : (c : Int) < (n : Int) := by omega
          have HLT := Lib.hid hcm
          clear hcm hc hjl hcell hb0
          cases b0 with
          | false =>
            go_wp2_with fail
            go_roundw
            case rel => exact ⟨c + 1, m, oa, oc, by have := HLT.out; omega, rfl, next_int (by have := HL.out; have := HLT.out; omega), Lib.hid ⟨ofl_less HX.out HS.out.symm HK.out.1, HK.out.2.skip HX.out HS.out.symm⟩⟩
            case measure => exact meas HLT.out (by have := HL.out; omega)
          | true =>
            have HV : Hid (Vec wx 12 (.slice oa m oc) m ((ofl key (l.take c)).flatMap Ev.row)) := Lib.hid (by have h1 := HK.out.2.row; rwa [← HK.out.1] at h1)
            go_wp2_with (at_builtin; refine wpList_append_any rfl _ _ 34 rfl 31 Try.t31 z31 12 Try.t31.bytes under34 info31 hz31 t31_size rfl hzs31 (by decide) (.slice oa m oc) m ((ofl key (l.take c)).flatMap Ev.row) rfl (HV.out.alloc _) (.slice (some ⟨wx.heap.size, 0, none⟩) 1 1) 1 [.int .i64 z1, .int .i64 z2, .int .i64 z3, .bool z4, .int .u8 z5, .string z6, .string z7, .string z8, .bool z9, .int .u8 za, .bool zb, .string zc] rfl (rd_new wx [.int .i64 z1, .int .i64 z2, .int .i64 z3, .bool z4, .int .u8 z5, .string z6, .string z7, .string z8, .bool z9, .int .u8 za, .bool zb, .string zc] 31 1 12 rfl (by decide)) (Ev.row_one ⟨z1, z2, z3, z4, z5, z6, z7, z8, z9, za, zb, zc⟩) (by have := HM.out; unfold maxLen; omega) (by have h1 := HM.out; have h2 := HB31.out; have : (m + 1) * Try.t31.bytes ≤ 151 * 200 := Nat.mul_le_mul (by omega) h2; omega) ?_; intro v5 w5 hv5 hg5 hf5; obtain ⟨oa5, oc5, rfl, _, _⟩ := hv5.shape; have HY := Lib.hid (And.intro hv5 (And.intro hg5 hf5)); clear hv5 hg5 hf5)
            go_roundw
            case rel => exact ⟨c + 1, m + 1, oa5, oc5, by have := HLT.out; omega, rfl, next_int (by have := HL.out; have := HLT.out; omega), Lib.hid ⟨ofl_more HX.out HS.out.symm HK.out.1, HK.out.2.pick (e := ⟨z1, z2, z3, z4, z5, z6, z7, z8, z9, za, zb, zc⟩) HX.out HS.out.symm HK.out.1 HY.out.1 HY.out.2.1 HY.out.2.2⟩⟩
            case measure => exact meas HLT.out (by have := HL.out; omega)
        · obtain rfl : c = n := by omega
          go_wp2_with fail
          go_ret
          have h1 := HK.out.2.row
          have h2 := HK.out.1
          have e : l.take c = l := List.take_of_length_le (by have := HL.out.1; omega)
          rw [e] at h1 h2
          refine ⟨_, rfl, ?_, fun g hg => (HK.out.2.fresh g hg).1, HK.out.2.mr.only⟩
          rw [← h2] at h1 ⊢
          exact h1
end Go.Proofs.Ytajbagdgjbihjaa
