/- LeaseUnlike: the walk. -/
import Derived.Test.YtfjfpnlcmjpofaaU2
namespace Go.Proofs.Ytfjfpnlcmjpofaa
open Go.RowKit Go.Maps
set_option linter.unusedVariables false

theorem gave_in {c : Tb} {key : ByteArray} {cl now : Int} {n : Nat} (h : n = c.top + 1) : ((c.life * 1048576 : Nat) : Int) < (n : Int) ∧ (n : Int) ≤ ((c.gave key cl now).top : Int) := by
  subst h
  simp only [Tb.top, Tb.gave]
  omega
theorem one100 (x : Int) : ∃ N : Nat, wrap64 (1 + wrap64 ((IntKind.u64.wrap x).tmod 100)) = (N : Int) ∧ 1 ≤ N ∧ N ≤ 100 := by
  obtain ⟨m, h1, h2⟩ := modk x 100 (by decide) (by decide)
  refine ⟨m + 1, ?_, by omega, by omega⟩
  have h1 : wrap64 ((IntKind.u64.wrap x).tmod 100) = (m : Int) := h1
  rw [h1, IntWalk.wrap64_in _ (by omega)]
  omega
set_option maxRecDepth 20000 in
theorem once_long (x y z : Int) (a : Option Addr) (n c : Nat) (w : World) (h : 150 < n) : Calls Try.prog 3 #[.int .i64 x, .int .i64 y, .int .i64 z, .slice a n c] w fun e w' => e = .returned (.bool true) ∧ Below w.heap.size w w' := by
  have h1 : (150 : Int) < (n : Int) := by omega
  have d1 : decide ((150 : Int) < (n : Int)) = true := by rw [decide_eq_true_eq]; exact h1
  clear h
  go_enter Try.func3, Try.ntmps3
  go_wp2_with fail
  refine (awake_any w).mono ?_
  rintro e w1 ⟨rfl, o⟩
  have O := Lib.hid o
  clear o
  go_wp2_with fail
  go_ret
  exact ⟨rfl, O.out.below (Nat.le_refl _) fun _ e => e.elim⟩
set_option maxRecDepth 20000 in
set_option maxHeartbeats 8000000 in
theorem once_main (x y z : Int) (a : Option Addr) (n c : Nat) (ss : List Stp) (w : World) (rd : Steps w a n ss) (h : n ≤ 150) : Calls Try.prog 3 #[.int .i64 x, .int .i64 y, .int .i64 z, .slice a n c] w fun e w' => e = .returned (.bool true) ∧ Below w.heap.size w w' := by
  have h1 : ¬ (150 : Int) < (n : Int) := by omega
  have d1 : decide ((150 : Int) < (n : Int)) = false := by rw [decide_eq_false_iff_not]; exact h1
  have RD := Lib.hid rd
  have H150 := Lib.hid h
  obtain ⟨N1, hN1, a1, a2⟩ := one2047 x
  obtain ⟨N2, hN2, b1, b2⟩ := one2047 y
  obtain ⟨hd, hHD, hd1, hd2⟩ := one100 z
  have HHD := Lib.hid (And.intro hd1 hd2)
  clear hd1 hd2
  clear rd h h1
  go_enter Try.func3, Try.ntmps3
  go_wp2_with fail
  refine (awake_any w).mono ?_
  rintro e w1 ⟨rfl, o⟩
  have O := Lib.hid o
  clear o
  go_upto_if 41 with fail
  rw [hN1, hN2]
  clear hN1 hN2 d1
  obtain ⟨cb, hcb⟩ : ∃ cb, cb = ((N2 : Int) != (N1 : Int)) := ⟨_, rfl⟩
  rw [← hcb]
  have HCB := Lib.hid hcb
  clear hcb
  have HNN := Lib.hid (And.intro (And.intro a1 a2) (And.intro b1 b2))
  have hmm := @run_makeMap Try.prog
  clear a1 a2 b1 b2
  go_cut [9] from 42 to 45 (fun z7 wx => ∃ (lives : List Nat) (la : Option Addr) (lc : Nat), z7 = .slice la lives.length lc ∧ Hid (Lives lives ∧ Vec wx 1 (.slice la lives.length lc) lives.length (lives.map fun x : Nat => Value.int .i64 (x : Int)) ∧ Only None' w wx ∧ ∀ q, (Value.slice la lives.length lc).ownBlock = some q → w.heap.size ≤ q))
  case first =>
    as_aux_lemma =>
    have V1 := Lib.hid (vec_one w1 (.int .i64 (N1 : Int)) 3)
    have hsz := O.out.size
    cases cb with
    | false =>
      go_wp2_with fail
      go_meet
      refine ⟨[N1], _, 1, rfl, Lib.hid ⟨⟨by simp, fun l hl => by simp at hl; subst hl; exact HNN.out.1, by simp⟩, V1.out, O.out.alloc _, fun q hq => ?_⟩⟩
      injection hq with hq
      have hq : w1.heap.size = q := hq
      omega
    | true =>
      have e : N2 ≠ N1 := by rintro rfl; have := HCB.out; simp at this
      have HE := Lib.hid e
      clear e
      go_wp2_with (first | (at_builtin; refine wpList_append_any rfl _ _ 25 rfl 3 Try.t3 (.int .i64 0) 1 8 Try.underlying25 info3 t3_zero t3_size t3_bytes rfl (by decide) (.slice (some ⟨w1.heap.size, 0, none⟩) 1 1) 1 [.int .i64 (N1 : Int)] rfl (V1.out.alloc _) (.slice (some ⟨w1.heap.size + 1, 0, none⟩) 1 1) 1 [.int .i64 (N2 : Int)] rfl (by have := rd_one' (w1.alloc (.cells #[.int .i64 (N1 : Int)] 3)) (.int .i64 (N2 : Int)) 3; simpa using this) (one_int _) (by unfold maxLen; decide) (by decide) ?_; intro v2 w5 hv2 hg2 hf2; obtain ⟨oa, oc, rfl, _, _⟩ := hv2.shape; have HY := Lib.hid (And.intro hv2 (And.intro hg2 hf2)); clear hv2 hg2 hf2))
      go_meet
      have oy : Only None' w w5 := ((O.out.alloc (.cells #[.int .i64 (N1 : Int)] 3)).alloc (.cells #[.int .i64 (N2 : Int)] 3)).trans2 ((Only.refl (fun q => q = w1.heap.size) _).grown HY.out.2.1 fun q hq => by injection hq with hq; exact hq.symm) fun k hk e => by omega
      refine ⟨[N1, N2], oa, oc, rfl, Lib.hid ⟨⟨by have := HE.out; simp; omega, fun l hl => ?_, by simp⟩, HY.out.1, oy, fun q hq => ?_⟩⟩
      · simp at hl
        rcases hl with rfl | rfl
        · exact HNN.out.1
        · exact HNN.out.2
      · rcases HY.out.2.2 q hq with h | h
        · injection h with h
          have h : w1.heap.size = q := h
          omega
        · simp at h
          omega
  case rest =>
  obtain ⟨lives, la, lc, rfl, HLV⟩ := hcut
  rename World => wx
  clear HNN HCB O
  have LV := Lib.hid HLV.out.1
  obtain ⟨G, hG⟩ : ∃ G, G = wx.heap.size := ⟨_, rfl⟩
  have L0 : Hid (OHead w (wx.alloc (.map #[] 0)) (.slice la lives.length lc) G 0 lives 0 (fun _ => 0)) := Lib.hid (by
    refine ⟨HLV.out.2.2.1.alloc _, HLV.out.2.1.alloc _, by rw [hG]; exact IMap.made wx, fun q hq => ⟨HLV.out.2.2.2 q hq, ?_⟩, by rw [hG]; exact HLV.out.2.2.1.size, fun n hn => absurd rfl hn, by simp⟩
    rw [hG]
    exact HLV.out.2.1.lt hq)
  obtain ⟨ml, hml⟩ : ∃ ml, ml = lives.length := ⟨_, rfl⟩
  have HML := Lib.hid hml
  rw [← hml]
  go_wp2_with fail
  rw [← hG]
  clear hG hml HLV
  go_loopw [12] (fun i wr => ∃ (k nG : Nat) (g : Int → Int), k ≤ ml ∧ nG ≤ 150 * k ∧ i = .int .i64 (k : Int) ∧ Hid (OHead w wr (.slice la ml lc) G nG lives k g)) (fun i wr => ml - (intOf i).toNat)
  case atStart => exact ⟨0, 0, _, by omega, by omega, rfl, Lib.hid (by rw [HML.out]; exact L0.out)⟩
  case round =>
    obtain ⟨k, nG, g, hk, hnG, rfl, HO⟩ := hrel
    clear L0
    by_cases hlt : k < ml
    · have hv := HO.out.lrow
      rw [← HML.out] at hv
      obtain ⟨g0, off0, rfl, hg0, hcell, _⟩ := hv.form' (by omega)
      have hj : k < lives.length := by have := HML.out; omega
      obtain ⟨L, hL⟩ : ∃ L, lives[k]? = some L := ⟨_, List.getElem?_eq_getElem hj⟩
      have k0 := hcell k (.int .i64 (L : Int)) (by rw [List.getElem?_map, hL]; rfl)
      have hL12 := LV.out.one L (List.mem_of_getElem? hL)
      have i0 : (0 : Int) ≤ (k : Int) := by omega
      have i1 : (k : Int) < (ml : Int) := by omega
      have HLK := Lib.hid (And.intro hlt hL)
      have HL12 := Lib.hid hL12
      have HNG := Lib.hid hnG
      clear hv hcell hj hL hL12 hlt hk hnG hg0
      go_wp2_with fail
      rw [hHD]
      have HNB : Hid (newB (L : Int) (hd : Int) 0 = true) := Lib.hid (by
        unfold newB clockB
        have h1 := HL12.out
        have h2 := HHD.out
        simp only [Bool.and_eq_true, decide_eq_true_eq]
        omega)
      refine (new_any L (hd : Int) 0 HNB.out wr).mono ?_
      rintro e w2 ⟨B, M, N, rfl, hc, hB, hM, hN, o2⟩
      have L1 : Hid (OIn w w2 (.slice (some ⟨g0, off0, none⟩) ml lc) G nG B M N lives k 0 ⟨L, hd, 0, 0, [], [], 0⟩ g) := Lib.hid (by
        have hGl := HO.out.g_.lt
        refine ⟨HO.out.only.trans o2, HO.out.lrow.only o2 fun _ _ e => e, HO.out.g_.only o2 fun e => e, HO.out.lvG, HO.out.new, hc, ⟨by omega, by omega, by omega⟩, HLK.out.2, fun n hn => ?_, HO.out.zero⟩
        rcases HO.out.old n hn with h | h
        · exact Or.inl h
        · exact Or.inr (Or.inl h))
      clear hc hB hM hN o2 k0 i0 i1
      go_wp2_with fail
      clear HO
      go_loopw [15] (fun i wr => ∃ (j nG M N : Nat) (c : Tb) (g : Int → Int), j ≤ n ∧ nG ≤ 150 * k + j ∧ i = .int .i64 (j : Int) ∧ Hid (OIn w wr (.slice (some ⟨g0, off0, none⟩) ml lc) G nG B M N lives k j c g)) (fun i wr => n - (intOf i).toNat)
      case atStart => exact ⟨0, nG, M, N, _, _, by omega, by have := HNG.out; omega, rfl, L1⟩
      case round =>
        clear L1 HNG
        obtain ⟨j, nG, M, N, c, g, hj, hnG, rfl, HI⟩ := hrel
        rename World => wx
        by_cases hlt : j < n
        · have hjs : j < ss.length := by have := RD.out.len; omega
          obtain ⟨b, off, rfl, hb, hA⟩ := RD.out.at_ j hjs
          obtain ⟨s, hs⟩ : ∃ s, s = ss[j] := ⟨_, rfl⟩
          have HF : Hid s.Fine := Lib.hid (RD.out.fine s (by rw [hs]; exact List.getElem_mem hjs))
          rw [← hs] at hA
          clear hs
          obtain ⟨kd, key, cl, now, nn, raw⟩ := s
          have HAT : Hid (∀ wy, Only None' w wy → At6 wy b (off + j * 6) ⟨kd, key, cl, now, nn, raw⟩) := Lib.hid (fun wy o => hA.only hb o fun e => e)
          have k0 := (HAT.out wx HI.out.only).k0
          simp only at k0
          have i0 : (0 : Int) ≤ (j : Int) := by omega
          have i1 : (j : Int) < (n : Int) := by omega
          have HJ := Lib.hid (And.intro hlt hnG)
          clear hb hA hjs hlt hnG hj
          go_upto_if 79 with fail
          go_cut [79] from 80 to 81 (fun z79 wz => ∃ (M' N' : Nat) (c' : Tb), Hid (OIn w wz (.slice (some ⟨g0, off0, none⟩) ml lc) G nG B M' N' lives k j c' g))
          case first =>
            by_cases hkd : kd = 4
            · have e1 : ((kd : Int) == 4) = true := by simp; omega
              have e2 : (kd == 4) = true := by simpa using hkd
              clear hkd
              go_wp2_with fail
              refine (clear_any HI.out.c_).mono ?_
              rintro e w2 ⟨rfl, M', N', h2, hM, hN, o2⟩
              have H2 := Lib.hid (HI.out.cleared h2 hM hN o2)
              clear h2 hM hN o2
              go_wp2_with fail
              go_meet
              exact ⟨M', N', _, H2⟩
            · have e1 : ((kd : Int) == 4) = false := by simp; omega
              have e2 : (kd == 4) = false := by simpa using hkd
              clear hkd
              go_wp2_with fail
              go_meet
              exact ⟨M, N, c, HI⟩
          case rest =>
            obtain ⟨M', N', c', HC⟩ := hcut
            rename World => wz
            clear HI k0
            have HA := Lib.hid (HAT.out wz HC.out.only)
            by_cases hcode : c'.giveCode key.data.toList now = 0
            · obtain ⟨Nn, hNn⟩ : ∃ Nn : Nat, Nn = c'.top + 1 := ⟨_, rfl⟩
              have HNN := Lib.hid hNn
              have HOK := Lib.hid (HC.out.c_.ok.gave (cache := cl) HF.out.pl hcode)
              have hb1 : (1 : Int) ≤ (Nn : Int) := by omega
              have hb2 : (Nn : Int) ≤ 2147483647 := by
                have h1 := HC.out.c_.ok.l2
                have h2 := HOK.out.g
                simp only [Tb.gave] at h2
                unfold Tb.top at hNn
                omega
              have HWF := Lib.hid (wf64 (a := (Nn : Int)) (by omega) (by omega))
              have HCODE := Lib.hid hcode
              have HG : Hid (∀ wq, TabAt wq B M' N' c' → Calls Try.prog 10 #[.pointer (some ⟨B, 0, none⟩), .string key, .int .i64 cl, .int .i64 now] wq fun e w' => e = .returned (.tuple #[.int .i64 (Nn : Int), .int .i64 0]) ∧ TabAt w' B M' N' (c'.gave key cl now) ∧ Only (fun k => k = B ∨ k = M') wq w') := Lib.hid (fun wq h => by rw [hNn]; exact give_go h key cl now HF.out.pl HCODE.out)
              clear hcode hNn
              go_wp2_with fail
              go_region_held3 (fun w' => w'.cell? ⟨b, off + j * 6 + 1, none⟩ = some (.string key) ∧ w'.cell? ⟨b, off + j * 6 + 2, none⟩ = some (.int .i64 cl) ∧ w'.cell? ⟨b, off + j * 6 + 3, none⟩ = some (.int .i64 now))
                (first | exact ⟨HA.out.k1, HA.out.k2, HA.out.k3⟩ | exact ⟨(HAT.out _ (HC.out.only.drewN _)).k1, (HAT.out _ (HC.out.only.drewN _)).k2, (HAT.out _ (HC.out.only.drewN _)).k3⟩ | exact ⟨(HAT.out _ HC.out.only.drew).k1, (HAT.out _ HC.out.only.drew).k2, (HAT.out _ HC.out.only.drew).k3⟩ | exact ⟨(HAT.out _ HO2.out).k1, (HAT.out _ HO2.out).k2, (HAT.out _ HO2.out).k3⟩ | exact ⟨(HAT.out _ (HO2.out.drewN _)).k1, (HAT.out _ (HO2.out.drewN _)).k2, (HAT.out _ (HO2.out.drewN _)).k3⟩ | exact ⟨(HAT.out _ HO2.out.drew).k1, (HAT.out _ HO2.out.drew).k2, (HAT.out _ HO2.out.drew).k3⟩)
                (first | (go_at_call 10; (first | with_reducible refine (HG.out _ HC.out.c_).mono ?_ | with_reducible refine (HG.out _ (HC.out.c_.drewN _)).mono ?_ | with_reducible refine (HG.out _ (HC.out.c_.new (Only.refl None' _).drew)).mono ?_); rintro e w5 ⟨rfl, h5, o5⟩; have H5 := Lib.hid h5; have O5 : Hid (Only (fun k => k = B ∨ k = M') wz w5) := Lib.hid (by first | exact o5 | exact ((Only.refl (fun k => k = B ∨ k = M') wz).drewN _).trans o5 | exact (Only.refl (fun k => k = B ∨ k = M') wz).drew.trans o5); have HO2 : Hid (Only None' w w5) := Lib.hid (HC.out.only.trans2 O5.out fun q hq e => by have h1 := HC.out.new; have h2 := HC.out.gb; omega); clear h5 o5))
              have hG5 : IMap w5 G nG g := HC.out.g_.only O5.out (by have := HC.out.gb; omega)
              have hun := HC.out.unseen LV.out
              rw [← HNN.out] at hun
              have hlk := hG5.look HWF.out
              rw [hun] at hlk
              obtain ⟨D, hD1, hD2⟩ := hG5.own
              have HD := Lib.hid (And.intro hD1 hD2)
              clear hun hG5 hD1 hD2
              go_wp2_with (first
                | (at_mapUpdate; refine wpList_mapUpdate_in _ rfl _ _ _ 26 rfl 3 3 keyed3 under26 (plainElem Try.prog 3) G nG D rfl HD.out.1 (by have h1 := HJ.out; have h2 := HLK.out.1; have h3 := LV.out.few; have h4 := HML.out; have h5 := H150.out; unfold maxLen; omega) (.int .i64 (Nn : Int)) (.int .i64 1) (.int .i64 (Nn : Int)) rfl rfl (keyOf_int_mk Try.underlying3 HWF.out) (.lit (.int .i64 1)) [] (plainElem_int Try.underlying3 (by decide)) ?_; intro w6 ho6 ht6; have HO6 := Lib.hid ho6; have O6 : Hid (Only (fun q => q = G) w5 w6) := Lib.hid ((Only.refl _ _).turned ht6 rfl); clear ho6 ht6 hlk))
              go_roundw
              case rel =>
                have hun := HC.out.unseen LV.out
                rw [← HNN.out] at hun
                refine ⟨j + 1, nG + 1, M', N', c'.gave key cl now, upd g (Nn : Int) (g (Nn : Int) + 1), by have := HJ.out; omega, by have := HJ.out; omega, next_int (by have := HJ.out; have := H150.out; omega), Lib.hid ?_⟩
                exact HC.out.gave H5.out rfl (Nat.le_succ _) O5.out (by rw [hun]; exact IMap.put HD.out.2 HD.out.1.isMap HO6.out) O6.out (Or.inr (gave_in HNN.out))
              case measure => exact meas HJ.out.1 (by have := H150.out; omega)
            · obtain ⟨code, hcd⟩ : ∃ code, c'.giveCode key.data.toList now = code := ⟨_, rfl⟩
              have hne : code ≠ 0 := by rw [← hcd]; exact hcode
              have HG : Hid (∀ wq, TabAt wq B M' N' c' → Calls Try.prog 10 #[.pointer (some ⟨B, 0, none⟩), .string key, .int .i64 cl, .int .i64 now] wq fun e w' => e = .returned (.tuple #[.int .i64 0, .int .i64 code]) ∧ Only None' wq w') := Lib.hid (fun wq h => (give_no h key HF.out.pl.1 cl now hcd hne).mono fun e w' ⟨h1, q, h2⟩ => ⟨h1, by rw [h2]; exact (Only.refl _ _).drewN q⟩)
              have e3 : (code == 0) = false := by simpa using hne
              clear hcode hcd hne
              go_wp2_with fail
              go_region_held3 (fun w' => w'.cell? ⟨b, off + j * 6 + 1, none⟩ = some (.string key) ∧ w'.cell? ⟨b, off + j * 6 + 2, none⟩ = some (.int .i64 cl) ∧ w'.cell? ⟨b, off + j * 6 + 3, none⟩ = some (.int .i64 now))
                (first | exact ⟨HA.out.k1, HA.out.k2, HA.out.k3⟩ | exact ⟨(HAT.out _ (HC.out.only.drewN _)).k1, (HAT.out _ (HC.out.only.drewN _)).k2, (HAT.out _ (HC.out.only.drewN _)).k3⟩ | exact ⟨(HAT.out _ HC.out.only.drew).k1, (HAT.out _ HC.out.only.drew).k2, (HAT.out _ HC.out.only.drew).k3⟩ | exact ⟨(HAT.out _ H5.out.only).k1, (HAT.out _ H5.out.only).k2, (HAT.out _ H5.out.only).k3⟩ | exact ⟨(HAT.out _ (H5.out.only.drewN _)).k1, (HAT.out _ (H5.out.only.drewN _)).k2, (HAT.out _ (H5.out.only.drewN _)).k3⟩ | exact ⟨(HAT.out _ H5.out.only.drew).k1, (HAT.out _ H5.out.only.drew).k2, (HAT.out _ H5.out.only.drew).k3⟩)
                (first | (go_at_call 10; (first | with_reducible refine (HG.out _ HC.out.c_).mono ?_ | with_reducible refine (HG.out _ (HC.out.c_.drewN _)).mono ?_ | with_reducible refine (HG.out _ (HC.out.c_.new (Only.refl None' _).drew)).mono ?_); rintro e w5 ⟨rfl, o5⟩; have O5 : Hid (Only None' wz w5) := Lib.hid (by first | exact o5 | exact ((Only.refl None' wz).drewN _).trans o5 | exact (Only.refl None' wz).drew.trans o5); have H5 := Lib.hid (HC.out.new_ O5.out); clear o5))
              have hlk := H5.out.g_.look (k := 0) (by decide)
              obtain ⟨g0v, hg0v⟩ : ∃ v, v = g 0 := ⟨_, rfl⟩
              have HGV := Lib.hid hg0v
              have z1 : 0 ≤ g0v := by rw [hg0v]; exact HC.out.zero.1
              have z2 : g0v ≤ 1000 := by rw [hg0v]; have h1 := HC.out.zero.2; have h2 := HJ.out; have h3 := HLK.out.1; have h4 := LV.out.few; have h5 := HML.out; have h6 := H150.out; omega
              rw [← hg0v] at hlk
              obtain ⟨D, hD1, hD2⟩ := H5.out.g_.own
              have HD := Lib.hid (And.intro hD1 hD2)
              clear hD1 hD2 hg0v
              go_wp2_with (first
                | (at_mapUpdate; refine wpList_mapUpdate_in _ rfl _ _ _ 26 rfl 3 3 keyed3 under26 (plainElem Try.prog 3) G nG D rfl HD.out.1 (by have h1 := HJ.out; have h2 := HLK.out.1; have h3 := LV.out.few; have h4 := HML.out; have h5 := H150.out; unfold maxLen; omega) (.int .i64 0) (.int .i64 (g0v + 1)) (.int .i64 0) rfl rfl (keyOf_int_mk Try.underlying3 (by decide)) (.lit (.int .i64 (g0v + 1))) [] (plainElem_int Try.underlying3 (wf64 (by omega) (by omega))) ?_; intro w6 ho6 ht6; have HO6 := Lib.hid ho6; have O6 : Hid (Only (fun q => q = G) w5 w6) := Lib.hid ((Only.refl _ _).turned ht6 rfl); clear ho6 ht6 hlk))
              go_roundw
              case rel =>
                refine ⟨j + 1, nG + 1, M', N', c', upd g 0 (g 0 + 1), by have := HJ.out; omega, by have := HJ.out; omega, next_int (by have := HJ.out; have := H150.out; omega), Lib.hid ?_⟩
                exact HC.out.gave (HC.out.c_.new O5.out) rfl (Nat.le_refl _) (O5.out.mono fun _ _ e => e.elim) (by rw [← HGV.out]; exact IMap.put HD.out.2 HD.out.1.isMap HO6.out) O6.out (Or.inl rfl)
              case measure => exact meas HJ.out.1 (by have := H150.out; omega)
        · obtain rfl : j = n := by omega
          go_wp2_with fail
          go_roundw
          case rel => exact ⟨k + 1, nG, g, HLK.out.1, by have := H150.out; omega, next_int (by have := HLK.out; have := LV.out.few; have := HML.out; omega), Lib.hid (HI.out.head H150.out)⟩
          case measure => exact meas HLK.out.1 (by have := LV.out.few; have := HML.out; omega)
    · obtain rfl : k = ml := by omega
      go_wp2_with fail
      go_ret
      exact ⟨rfl, HO.out.only.below (Nat.le_refl _) fun _ e => e.elim⟩
theorem unlike_walk (x y z : Int) (a : Option Addr) (n c : Nat) (ss : List Stp) (w : World) (rd : Steps w a n ss) : Calls Try.prog 3 #[.int .i64 x, .int .i64 y, .int .i64 z, .slice a n c] w fun e w' => e = .returned (.bool true) ∧ Below w.heap.size w w' := by
  by_cases h : 150 < n
  · exact once_long x y z a n c w h
  · exact once_main x y z a n c ss w rd (by omega)
end Go.Proofs.Ytfjfpnlcmjpofaa
