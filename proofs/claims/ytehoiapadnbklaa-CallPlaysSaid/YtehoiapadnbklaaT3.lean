/- CallOnce: the walk. -/
import Derived.Test.YtehoiapadnbklaaT2
namespace Go.Proofs.Ytehoiapadnbklaa
open Go.RowKit Go.Maps
set_option linter.unusedVariables false

theorem u64_nonneg (x : Int) : 0 ≤ IntKind.u64.wrap x := by
  simp [IntKind.wrap, IntKind.bits, IntKind.signed]
  omega
theorem modk (x : Int) (m : Nat) (h1 : 1 ≤ m) (h2 : m ≤ 1000000) : ∃ N : Nat, wrap64 ((IntKind.u64.wrap x).tmod (m : Int)) = (N : Int) ∧ N < m := by
  have h0 := u64_nonneg x
  have e : (IntKind.u64.wrap x).tmod (m : Int) = (IntKind.u64.wrap x) % (m : Int) := Int.tmod_eq_emod_of_nonneg h0
  have a1 := Int.emod_nonneg (IntKind.u64.wrap x) (show (m : Int) ≠ 0 by omega)
  have a2 := Int.emod_lt_of_pos (IntKind.u64.wrap x) (show (0 : Int) < m by omega)
  refine ⟨((IntKind.u64.wrap x) % (m : Int)).toNat, ?_, by omega⟩
  rw [e, IntWalk.wrap64_in _ (by omega)]
  omega
theorem one2047 (x : Int) : ∃ N : Nat, wrap64 (1 + wrap64 ((IntKind.u64.wrap x).tmod 2047)) = (N : Int) ∧ 1 ≤ N ∧ N ≤ 2047 := by
  obtain ⟨m, h1, h2⟩ := modk x 2047 (by decide) (by decide)
  refine ⟨m + 1, ?_, by omega, by omega⟩
  have h1 : wrap64 ((IntKind.u64.wrap x).tmod 2047) = (m : Int) := h1
  rw [h1, IntWalk.wrap64_in _ (by omega)]
  omega
set_option maxRecDepth 20000 in
theorem once_long (x y : Int) (a : Option Addr) (n c : Nat) (w : World) (h : 150 < n) : Calls Try.prog 3 #[.int .i64 x, .int .i64 y, .slice a n c] w fun e w' => e = .returned (.bool true) ∧ Below w.heap.size w w' := by
  have h1 : (150 : Int) < (n : Int) := by omega
  have d1 : decide ((150 : Int) < (n : Int)) = true := by rw [decide_eq_true_eq]; exact h1
  clear h
  go_enter Try.func3, Try.ntmps3
  go_wp2_with fail
  refine (awake_any w).mono ?_
  rintro e w1 ⟨rfl, o⟩
  have O := Lib.hid o
  clear o
  go_wp2_with fail
  go_ret
  exact ⟨rfl, O.out.below (Nat.le_refl _) fun _ e => e.elim⟩
theorem info3 : Try.prog.info? 3 = some Try.t3 := by kernel_rfl
theorem t3_zero : Try.t3.zero = some (.int .i64 0) := by kernel_rfl
theorem t3_size : Try.t3.size = 1 := by kernel_rfl
theorem t3_bytes : Try.t3.bytes = 8 := by kernel_rfl
theorem vec_one (w : World) (v : Value) (t : TypeId) : Vec (w.alloc (.cells #[v] t)) 1 (.slice (some ⟨w.heap.size, 0, none⟩) 1 1) 1 [v] := by
  have hc := cells_new w [v] t
  refine ⟨rfl, .inr ⟨w.heap.size, 0, 1, rfl, Nat.le_refl _, by unfold maxLen; decide, hc.lt, fun j u hu => ?_, fun j hj => ?_⟩⟩
  · rw [Nat.zero_add]; exact hc.is j u hu
  · obtain rfl : j = 0 := by omega
    exact ⟨by rw [hc.is 0 v rfl]; rfl, hc.thaw 0⟩
theorem one_int (a : Int) : ∀ u ∈ [Value.int .i64 a], u.oneCell' = true := by
  intro u hu
  simp at hu
  subst hu
  rfl
set_option maxRecDepth 20000 in
set_option maxHeartbeats 8000000 in
theorem once_main (x y : Int) (a : Option Addr) (n c : Nat) (ss : List Stp) (w : World) (rd : Steps w a n ss) (h : n ≤ 150) : Calls Try.prog 3 #[.int .i64 x, .int .i64 y, .slice a n c] w fun e w' => e = .returned (.bool true) ∧ Below w.heap.size w w' := by
  have h1 : ¬ (150 : Int) < (n : Int) := by omega
  have d1 : decide ((150 : Int) < (n : Int)) = false := by rw [decide_eq_false_iff_not]; exact h1
  have RD := Lib.hid rd
  have H150 := Lib.hid h
  obtain ⟨N1, hN1, a1, a2⟩ := one2047 x
  obtain ⟨N2, hN2, b1, b2⟩ := one2047 y
  clear rd h h1
  go_enter Try.func3, Try.ntmps3
  go_wp2_with fail
  refine (awake_any w).mono ?_
  rintro e w1 ⟨rfl, o⟩
  have O := Lib.hid o
  clear o
  go_upto_if 43 with fail
  rw [hN1, hN2]
  clear hN1 hN2 d1
  obtain ⟨cb, hcb⟩ : ∃ cb, cb = ((N2 : Int) != (N1 : Int)) := ⟨_, rfl⟩
  rw [← hcb]
  have HCB := Lib.hid hcb
  clear hcb
  have HNN := Lib.hid (And.intro (And.intro a1 a2) (And.intro b1 b2))
  have hmm := @run_makeMap Try.prog
  clear a1 a2 b1 b2
  go_cut [7] from 44 to 47 (fun z7 wx => ∃ (lives : List Nat) (la : Option Addr) (lc : Nat), z7 = .slice la lives.length lc ∧ Hid (Lives lives ∧ Vec wx 1 (.slice la lives.length lc) lives.length (lives.map fun x : Nat => Value.int .i64 (x : Int)) ∧ Only None' w wx ∧ ∀ q, (Value.slice la lives.length lc).ownBlock = some q → w.heap.size ≤ q))
  case first =>
    as_aux_lemma =>
    have V1 := Lib.hid (vec_one w1 (.int .i64 (N1 : Int)) 3)
    have hsz := O.out.size
    cases cb with
    | false =>
      go_wp2_with fail
      go_meet
      refine ⟨[N1], _, 1, rfl, Lib.hid ⟨⟨by simp, fun l hl => by simp at hl; subst hl; exact HNN.out.1, by simp⟩, V1.out, O.out.alloc _, fun q hq => ?_⟩⟩
      injection hq with hq
      have hq : w1.heap.size = q := hq
      omega
    | true =>
      have e : N2 ≠ N1 := by rintro rfl; have := HCB.out; simp at this
      have HE := Lib.hid e
      clear e
      go_wp2_with (first | (at_builtin; refine wpList_append_any rfl _ _ 25 rfl 3 Try.t3 (.int .i64 0) 1 8 Try.underlying25 info3 t3_zero t3_size t3_bytes rfl (by decide) (.slice (some ⟨w1.heap.size, 0, none⟩) 1 1) 1 [.int .i64 (N1 : Int)] rfl (V1.out.alloc _) (.slice (some ⟨w1.heap.size + 1, 0, none⟩) 1 1) 1 [.int .i64 (N2 : Int)] rfl (by have := rd_one' (w1.alloc (.cells #[.int .i64 (N1 : Int)] 3)) (.int .i64 (N2 : Int)) 3; simpa using this) (one_int _) (by unfold maxLen; decide) (by decide) ?_; intro v2 w5 hv2 hg2 hf2; obtain ⟨oa, oc, rfl, _, _⟩ := hv2.shape; have HY := Lib.hid (And.intro hv2 (And.intro hg2 hf2)); clear hv2 hg2 hf2))
      go_meet
      have oy : Only None' w w5 := ((O.out.alloc (.cells #[.int .i64 (N1 : Int)] 3)).alloc (.cells #[.int .i64 (N2 : Int)] 3)).trans2 ((Only.refl (fun q => q = w1.heap.size) _).grown HY.out.2.1 fun q hq => by injection hq with hq; exact hq.symm) fun k hk e => by omega
      refine ⟨[N1, N2], oa, oc, rfl, Lib.hid ⟨⟨by have := HE.out; simp; omega, fun l hl => ?_, by simp⟩, HY.out.1, oy, fun q hq => ?_⟩⟩
      · simp at hl
        rcases hl with rfl | rfl
        · exact HNN.out.1
        · exact HNN.out.2
      · rcases HY.out.2.2 q hq with h | h
        · injection h with h
          have h : w1.heap.size = q := h
          omega
        · simp at h
          omega
  case rest =>
  obtain ⟨lives, la, lc, rfl, HLV⟩ := hcut
  rename World => wx
  clear HNN HCB O
  have LV := Lib.hid HLV.out.1
  obtain ⟨G, hG⟩ : ∃ G, G = wx.heap.size := ⟨_, rfl⟩
  have L0 : Hid (OHead w (wx.alloc (.map #[] 0)) (.slice la lives.length lc) G 0 lives 0 (fun _ => 0)) := Lib.hid (by
    refine ⟨HLV.out.2.2.1.alloc _, HLV.out.2.1.alloc _, by rw [hG]; exact IMap.made wx, fun q hq => ⟨HLV.out.2.2.2 q hq, ?_⟩, by rw [hG]; exact HLV.out.2.2.1.size, fun n hn => absurd rfl hn⟩
    rw [hG]
    exact HLV.out.2.1.lt hq)
  obtain ⟨ml, hml⟩ : ∃ ml, ml = lives.length := ⟨_, rfl⟩
  have HML := Lib.hid hml
  rw [← hml]
  go_wp2_with fail
  rw [← hG]
  clear hG hml HLV
  go_loopw [9] (fun i wr => ∃ (k nG : Nat) (g : Int → Int), k ≤ ml ∧ nG ≤ 150 * k ∧ i = .int .i64 (k : Int) ∧ Hid (OHead w wr (.slice la ml lc) G nG lives k g)) (fun i wr => ml - (intOf i).toNat)
  case atStart => exact ⟨0, 0, _, by omega, by omega, rfl, Lib.hid (by rw [HML.out]; exact L0.out)⟩
  case round =>
    obtain ⟨k, nG, g, hk, hnG, rfl, HO⟩ := hrel
    clear L0
    by_cases hlt : k < ml
    · have hv := HO.out.lrow
      rw [← HML.out] at hv
      obtain ⟨g0, off0, rfl, hg0, hcell, _⟩ := hv.form' (by omega)
      have hj : k < lives.length := by have := HML.out; omega
      obtain ⟨L, hL⟩ : ∃ L, lives[k]? = some L := ⟨_, List.getElem?_eq_getElem hj⟩
      have k0 := hcell k (.int .i64 (L : Int)) (by rw [List.getElem?_map, hL]; rfl)
      have hL12 := LV.out.one L (List.mem_of_getElem? hL)
      have i0 : (0 : Int) ≤ (k : Int) := by omega
      have i1 : (k : Int) < (ml : Int) := by omega
      have HLK := Lib.hid (And.intro hlt hL)
      have HL12 := Lib.hid hL12
      have HNG := Lib.hid hnG
      clear hv hcell hj hL hL12 hlt hk hnG hg0
      go_wp2_with fail
      refine (new_any L HL12.out.1 HL12.out.2 wr).mono ?_
      rintro e w2 ⟨B, M, rfl, hc, hB, hM, o2⟩
      obtain ⟨T, hT⟩ : ∃ T, T = w2.heap.size := ⟨_, rfl⟩
      have L1 : Hid (OIn w (w2.alloc (.map #[] 0)) (.slice (some ⟨g0, off0, none⟩) ml lc) G nG B M T 0 lives k 0 ⟨L, 0, []⟩ g (fun _ => 0) (.slice none 0 0) []) := Lib.hid (by
        have hGl := HO.out.g_.lt
        have oa : Only None' wr (w2.alloc (.map #[] 0)) := o2.alloc _
        refine ⟨HO.out.only.trans oa, HO.out.lrow.only oa fun _ _ e => e, HO.out.g_.only oa fun e => e, HO.out.lvG, HO.out.new, hc.new ((Only.refl _ _).alloc _), by rw [hT]; exact IMap.made w2, Vec.nil _ 1, ⟨by omega, by omega⟩, ⟨by rw [hT]; exact hc.cells.lt, by rw [hT]; exact hc.lt⟩, (fun q hq => by cases hq), HLK.out.2, fun n hn => Or.inl (HO.out.old n hn), (fun n hn => absurd rfl hn), (fun n hn => by cases hn), ⟨Nat.le_refl _, Nat.le_refl _⟩⟩)
      clear hc hB hM o2 k0 i0 i1
      go_wp2_with fail
      rw [← hT]
      clear hT HO
      go_loopw [13, 14] (fun p i wr => ∃ (j nG nT : Nat) (c : Cl) (g t : Int → Int) (mine : List Int) (ma : Option Addr) (mc : Nat), j ≤ n ∧ nG ≤ 150 * k + j ∧ p = .slice ma mine.length mc ∧ i = .int .i64 (j : Int) ∧ Hid (OIn w wr (.slice (some ⟨g0, off0, none⟩) ml lc) G nG B M T nT lives k j c g t (.slice ma mine.length mc) mine)) (fun p i wr => n - (intOf i).toNat)
      case atStart => exact ⟨0, nG, 0, _, _, _, [], none, 0, by omega, by have := HNG.out; omega, rfl, rfl, L1⟩
      case round =>
        clear L1 HNG
        obtain ⟨j, nG, nT, c, g, t, mine, ma, mc, hj, hnG, rfl, rfl, HI⟩ := hrel
        rename World => wx
        by_cases hlt : j < n
        · have hjs : j < ss.length := by have := RD.out.len; omega
          obtain ⟨b, off, rfl, hb, hA⟩ := RD.out.at_ j hjs
          obtain ⟨s, hs⟩ : ∃ s, s = ss[j] := ⟨_, rfl⟩
          rw [← hs] at hA
          clear hs
          obtain ⟨kd, key, cl, id, now, nn, raw⟩ := s
          have hA2 := hA.only hb HI.out.only fun e => e
          have k0 := hA2.k0
          have k1 := hA2.k1
          have k2 := hA2.k2
          have k3 := hA2.k3
          have k4 := hA2.k4
          have k5 := hA2.k5
          have k6 := hA2.k6
          simp only at k0 k1 k2 k3 k4 k5 k6
          have i0 : (0 : Int) ≤ (j : Int) := by omega
          have i1 : (j : Int) < (n : Int) := by omega
          have HJ := Lib.hid (And.intro hlt hnG)
          have oA : Only None' wx (wx.alloc (.cells #[.int .u8 (kd : Int), .string key, .int .i64 cl, .int .i64 id, .int .i64 now, .int .i64 nn, .bool raw] 32)) := (Only.refl None' wx).alloc _
          have HA := Lib.hid (HI.out.new_ oA)
          have HOA := Lib.hid oA
          clear hb hA hA2 hjs hlt hnG hj oA
          by_cases hkd : kd = 0
          · have e1 : ((kd : Int) == 0) = true := by simp; omega
            have e2 : (kd == 0) = true := by simpa using hkd
            obtain ⟨N, hN⟩ : ∃ N : Nat, N = c.life * 1048576 + c.given + 1 := ⟨_, rfl⟩
            have HNN := Lib.hid hN
            by_cases hcode : c.askCode now = 0
            · have HK := Lib.hid (ask_go HA.out.c_ key cl id now hcode)
              rw [← hN] at HK
              have HOK := Lib.hid (HI.out.c_.ok.asked (key := key) (client := cl) (id := id) hcode)
              have hb1 : (1 : Int) ≤ (N : Int) := by omega
              have hb2 : (N : Int) ≤ 2147483647 := by
                have h1 := HI.out.c_.ok.l2
                have h2 := HOK.out.g
                simp only [Cl.asked] at h2
                omega
              have HWF := Lib.hid (wf64 (a := (N : Int)) (by omega) (by omega))
              clear hcode hkd hN
              go_wp2_with fail
              refine HK.out.mono ?_
              rintro e w2 ⟨rfl, h2, o2⟩
              have H2 := Lib.hid (And.intro h2 o2)
              have hun := HI.out.unseen LV.out
              rw [← HNN.out] at hun
              have hG2 : IMap w2 G nG g := HA.out.g_.only o2 (by have := HI.out.gb; omega)
              have hlk := hG2.look HWF.out
              rw [hun] at hlk
              obtain ⟨D, hD1, hD2⟩ := hG2.own
              have HD := Lib.hid (And.intro hD1 hD2)
              clear h2 o2 hun hG2 hD1 hD2 k0 k1 k2 k3 k4 k5 k6 HK
              have HV2 := Lib.hid (HA.out.mrow.only H2.out.2 fun q hq e => by have h1 := HI.out.mt q hq; have h2 := HI.out.bt; omega)
              go_wp2_with (first
                | (at_mapUpdate; refine wpList_mapUpdate_in _ rfl _ _ _ 26 rfl 3 3 keyed3 under26 (plainElem Try.prog 3) G nG D rfl HD.out.1 (by have h1 := HJ.out; have h2 := HLK.out.1; have h3 := LV.out.few; have h4 := HML.out; have h5 := H150.out; unfold maxLen; omega) (.int .i64 (N : Int)) (.int .i64 1) (.int .i64 (N : Int)) rfl rfl (keyOf_int_mk Try.underlying3 HWF.out) (.lit (.int .i64 1)) [] (plainElem_int Try.underlying3 (by decide)) ?_; intro w3 ho3 ht3; have HO3 := Lib.hid ho3; have O3 : Hid (Only (fun q => q = G) w2 w3) := Lib.hid ((Only.refl _ _).turned ht3 rfl); have HV3 := Lib.hid (HV2.out.only O3.out fun q hq e => by have h1 := HI.out.mt q hq; have h2 := HI.out.bt; have h3 := HI.out.gb; omega); clear ho3 ht3 hlk)
                | (at_builtin; refine wpList_append_any rfl _ _ 25 rfl 3 Try.t3 (.int .i64 0) 1 8 Try.underlying25 info3 t3_zero t3_size t3_bytes rfl (by decide) (.slice ma mine.length mc) mine.length (mine.map (Value.int .i64)) rfl (HV3.out.alloc _) (.slice (some ⟨w3.heap.size, 0, none⟩) 1 1) 1 [.int .i64 (N : Int)] rfl (rd_one' w3 _ 3) (one_int _) (by have h1 := HI.out.small; have h2 := HJ.out; have h3 := H150.out; unfold maxLen; omega) (by have h1 := HI.out.small; have h2 := HJ.out; have h3 := H150.out; omega) ?_; intro v2 w5 hv2 hg2 hf2; obtain ⟨oa, oc, rfl, _, _⟩ := hv2.shape; have HY := Lib.hid (And.intro hv2 (And.intro hg2 hf2)); clear hv2 hg2 hf2))
              go_roundw
              case rel =>
                have e := HNN.out
                subst e
                refine ⟨j + 1, nG + 1, nT, c.asked key cl id now, upd g ((c.life * 1048576 + c.given + 1 : Nat) : Int) 1, t, mine ++ [((c.life * 1048576 + c.given + 1 : Nat) : Int)], oa, oc, by have := HJ.out; omega, by have := HJ.out; omega, by rw [List.length_append]; rfl, next_int (by have := HJ.out; have := H150.out; omega), Lib.hid ?_⟩
                have hr := HA.out.asked (v := 1) HOK.out H2.out.1 H2.out.2 (IMap.put HD.out.2 HD.out.1.isMap HO3.out) O3.out HY.out.1 HY.out.2.1 HY.out.2.2
                rw [List.length_append]
                exact hr
              case measure => exact meas HJ.out.1 (by have := H150.out; omega)
            · obtain ⟨code, hcd⟩ : ∃ code, c.askCode now = code := ⟨_, rfl⟩
              have hne : code ≠ 0 := by rw [← hcd]; exact hcode
              have HK := Lib.hid (ask_no HA.out.c_ key cl id now hcd hne)
              have e3 : (code == 0) = false := by simpa using hne
              clear hcode hkd hN hcd hne
              go_wp2_with fail
              refine HK.out.mono ?_
              rintro e w2 ⟨rfl, q, hq⟩
              have o2 : Only None' (wx.alloc (.cells #[.int .u8 (kd : Int), .string key, .int .i64 cl, .int .i64 id, .int .i64 now, .int .i64 nn, .bool raw] 32)) w2 := by rw [hq]; exact (Only.refl None' _).drewN q
              have H2 := Lib.hid (HA.out.new_ o2)
              clear hq o2
              go_wp2_with fail
              go_roundw
              case rel => exact ⟨j + 1, nG, nT, c, g, t, mine, ma, mc, by have := HJ.out; omega, by have := HJ.out; omega, rfl, next_int (by have := HJ.out; have := H150.out; omega), Lib.hid (H2.out.later (by omega))⟩
              case measure => exact meas HJ.out.1 (by have := H150.out; omega)
          · have e1 : ((kd : Int) == 0) = false := by simp; omega
            have e2 : (kd == 0) = false := by simpa using hkd
            clear hkd
            obtain ⟨q, hq⟩ : ∃ q, q = mine.length := ⟨_, rfl⟩
            have HQ := Lib.hid hq
            rw [← hq]
            by_cases hm : q = 0
            · have e3 : ((q : Int) == 0) = true := by simp; omega
              have e4 : (q == 0) = true := by simpa using hm
              clear hm hq
              go_wp2_with fail
              go_roundw
              case rel => exact ⟨j + 1, nG, nT, c, g, t, mine, ma, mc, by have := HJ.out; omega, by have := HJ.out; omega, by rw [HQ.out], next_int (by have := HJ.out; have := H150.out; omega), Lib.hid (HA.out.later (by omega))⟩
              case measure => exact meas HJ.out.1 (by have := H150.out; omega)
            · have e3 : ((q : Int) == 0) = false := by simp; omega
              have e4 : (q == 0) = false := by simpa using hm
              have hq150 : q ≤ 150 := by have h1 := HI.out.small; have h2 := HJ.out; have h3 := H150.out; omega
              obtain ⟨jx, hjx, hjq⟩ := modk nn q (by omega) (by omega)
              have q0 : (0 : Int) ≤ (q : Int) := by omega
              have q1 : (q : Int) ≤ 150 := by omega
              have hv := HA.out.mrow
              rw [← hq] at hv
              obtain ⟨gm, om, rfl, _, hcell, _⟩ := hv.form' (by omega)
              obtain ⟨m, hm'⟩ : ∃ m, mine[jx]? = some m := ⟨_, List.getElem?_eq_getElem (by omega)⟩
              have cm := hcell jx (.int .i64 m) (by rw [List.getElem?_map, hm']; rfl)
              have hmem := List.mem_of_getElem? hm'
              have HMM := Lib.hid hmem
              obtain ⟨b1, b2, b3, b4, b5⟩ := HI.out.ok m hmem
              have HWF := Lib.hid (wf64 (a := m) (by omega) (by have h1 := HI.out.c_.ok.l2; have h2 := HI.out.c_.ok.g; unfold Cl.top at b2; omega))
              obtain ⟨x, hx⟩ : ∃ x, x = (c.find m).getD Wt.zero := ⟨_, rfl⟩
              obtain ⟨bb, hbb⟩ : ∃ bb, bb = (c.find m).isSome := ⟨_, rfl⟩
              have HT := Lib.hid (tell_any HA.out.c_ m HWF.out)
              rw [← hx, ← hbb] at HT
              obtain ⟨tm, htm⟩ : ∃ tm, tm = t m := ⟨_, rfl⟩
              have HTM := Lib.hid htm
              rw [← htm] at b3 b4 b5
              rw [← hbb] at b5
              have HXR : Hid (bb = true → x.req = m) := Lib.hid fun hb => by
                rw [hbb] at hb
                obtain ⟨y, hy⟩ := Option.isSome_iff_exists.1 hb
                rw [hx, hy]
                exact (Cl.find_req hy).1
              have j0 : (0 : Int) ≤ (jx : Int) := by omega
              have j1 : (jx : Int) < (q : Int) := by omega
              have t1 : tm ≤ 1000 := by have h2 := HJ.out; have h3 := H150.out; omega
              have HB5 := Lib.hid b5
              clear hm hq hv hcell hm' hmem b1 b2 b4 b5 hx hbb htm hjq hq150
              obtain ⟨x1, x2, x3, x4, x5, x6, x7⟩ := x
              unfold Wt.v at HT
              simp only at HT HXR
              go_wp2_with fail
              refine HT.out.mono ?_
              rintro e w2 ⟨rfl, h2, o2⟩
              have H2 := Lib.hid (And.intro h2 o2)
              have hT2 : IMap (w2.alloc (.cells #[.int .i64 x1, .string x2, .int .i64 x3, .int .i64 x4, .int .i64 x5, .int .i64 x6, .bool x7] 36)) T nT t := (HA.out.t_.only o2 (by have := HI.out.bt; omega)).only ((Only.refl None' w2).alloc _) fun e => e
              have hlk := hT2.look HWF.out
              rw [← HTM.out] at hlk
              obtain ⟨D, hD1, hD2⟩ := hT2.own
              have HD := Lib.hid (And.intro hD1 hD2)
              clear h2 o2 hT2 hD1 hD2 HT k0 k1 k2 k3 k4 k5 k6
              cases bb with
              | true =>
                have h0 : tm = 0 := by simpa using HB5.out.symm
                have hx1 : x1 = m := HXR.out rfl
                subst h0
                subst hx1
                go_wp2_with (first | (at_mapUpdate; refine wpList_mapUpdate_in _ rfl _ _ _ 26 rfl 3 3 keyed3 under26 (plainElem Try.prog 3) T nT D rfl HD.out.1 (by have h1 := HI.out.small; have h2 := HJ.out; have h3 := H150.out; unfold maxLen; omega) (.int .i64 x1) (.int .i64 1) (.int .i64 x1) rfl rfl (keyOf_int_mk Try.underlying3 HWF.out) (.lit (.int .i64 1)) [] (plainElem_int Try.underlying3 (wf64 (by omega) (by omega))) ?_; intro w3 ho3 ht3; have HO3 := Lib.hid ho3; have O3 : Hid (Only (fun q => q = T) (w2.alloc (.cells #[.int .i64 x1, .string x2, .int .i64 x3, .int .i64 x4, .int .i64 x5, .int .i64 x6, .bool x7] 36)) w3) := Lib.hid ((Only.refl _ _).turned ht3 rfl); clear ho3 ht3))
                go_roundw
                case rel =>
                  refine ⟨j + 1, nG, nT + 1, c.told x1, g, upd t x1 (t x1 + 1), mine, some ⟨gm, om, none⟩, mc, by have := HJ.out; omega, by have := HJ.out; omega, by rw [HQ.out], next_int (by have := HJ.out; have := H150.out; omega), Lib.hid ?_⟩
                  exact HA.out.told HMM.out H2.out.1 H2.out.2 ((Only.refl None' w2).alloc _) (by rw [← HTM.out]; exact IMap.put HD.out.2 HD.out.1.isMap HO3.out) O3.out
                case measure => exact meas HJ.out.1 (by have := H150.out; omega)
              | false =>
                have e5 : (tm == 0) = false := by have := HB5.out; simpa using this
                clear HB5 HXR
                go_wp2_with (first | (at_mapUpdate; refine wpList_mapUpdate_in _ rfl _ _ _ 26 rfl 3 3 keyed3 under26 (plainElem Try.prog 3) T nT D rfl HD.out.1 (by have h1 := HI.out.small; have h2 := HJ.out; have h3 := H150.out; unfold maxLen; omega) (.int .i64 m) (.int .i64 (tm + 1)) (.int .i64 m) rfl rfl (keyOf_int_mk Try.underlying3 HWF.out) (.lit (.int .i64 (tm + 1))) [] (plainElem_int Try.underlying3 (wf64 (by omega) (by omega))) ?_; intro w3 ho3 ht3; have HO3 := Lib.hid ho3; have O3 : Hid (Only (fun q => q = T) (w2.alloc (.cells #[.int .i64 x1, .string x2, .int .i64 x3, .int .i64 x4, .int .i64 x5, .int .i64 x6, .bool x7] 36)) w3) := Lib.hid ((Only.refl _ _).turned ht3 rfl); clear ho3 ht3))
                go_roundw
                case rel =>
                  refine ⟨j + 1, nG, nT + 1, c.told m, g, upd t m (t m + 1), mine, some ⟨gm, om, none⟩, mc, by have := HJ.out; omega, by have := HJ.out; omega, by rw [HQ.out], next_int (by have := HJ.out; have := H150.out; omega), Lib.hid ?_⟩
                  exact HA.out.told HMM.out H2.out.1 H2.out.2 ((Only.refl None' w2).alloc _) (by rw [← HTM.out]; exact IMap.put HD.out.2 HD.out.1.isMap HO3.out) O3.out
                case measure => exact meas HJ.out.1 (by have := H150.out; omega)
        · obtain rfl : j = n := by omega
          go_wp2_with fail
          go_roundw
          case rel => exact ⟨k + 1, nG, g, HLK.out.1, by have := H150.out; omega, next_int (by have := HLK.out; have := LV.out.few; have := HML.out; omega), Lib.hid (HI.out.head HI.out.life)⟩
          case measure => exact meas HLK.out.1 (by have := LV.out.few; have := HML.out; omega)
    · obtain rfl : k = ml := by omega
      go_wp2_with fail
      go_ret
      exact ⟨rfl, HO.out.only.below (Nat.le_refl _) fun _ e => e.elim⟩
theorem once_walk (x y : Int) (a : Option Addr) (n c : Nat) (ss : List Stp) (w : World) (rd : Steps w a n ss) : Calls Try.prog 3 #[.int .i64 x, .int .i64 y, .slice a n c] w fun e w' => e = .returned (.bool true) ∧ Below w.heap.size w w' := by
  by_cases h : 150 < n
  · exact once_long x y a n c w h
  · exact once_main x y a n c ss w rd (by omega)
end Go.Proofs.Ytehoiapadnbklaa
