/- RingCrashes: the walk of the law. -/
import Derived.Test.YteoeaojebklfjaaCB
namespace Go.Proofs.Yteoeaojebklfjaa
open Go.RowKit Go.Maps
set_option linter.unusedVariables false

set_option maxRecDepth 20000 in
set_option maxHeartbeats 8000000 in
theorem crashes_main (x : Int) (a : Option Addr) (n c : Nat) (ss : List Rnd) (w : World) (rd : Rnds w a n ss) (h : n ≤ 6) : Calls Try.prog 11 #[.int .i64 x, .slice a n c] w fun e w' => e = .returned (.bool true) ∧ Below w.heap.size w w' := by
  have h1 : ¬ (6 : Int) < (n : Int) := by omega
  have d1 : decide ((6 : Int) < (n : Int)) = false := by rw [decide_eq_false_iff_not]; exact h1
  have RD := Lib.hid rd
  have H6 := Lib.hid h
  obtain ⟨count, hc, hc1, hc9⟩ := one9 x
  clear rd h
  go_enter Try.func11, Try.ntmps11
  go_wp2_with fail
  refine (awake_any w).mono ?_
  rintro e w1 ⟨rfl, o⟩
  have O := Lib.hid o
  clear o
  go_wp2_with fail
  rw [hc]
  clear hc h1 d1
  refine (new_dsk 16 16 rfl w _ O.out (by decide) (by decide)).mono ?_
  rintro r w2 ⟨D, F1, rfl, h2, -, -⟩
  have S2 := Lib.hid (hd_new h2 hc1 hc9)
  have HC := Lib.hid (And.intro hc1 hc9)
  clear h2 hc1 hc9 O
  go_wp2_with fail
  go_loopw [5, 7, 8, 9] (fun p b s i wr => ∃ (k D : Nat) (F : Nat → Prop) (base : Nat) (d : Dk) (sa : Option Addr) (sc : Nat) (sure : List Rec), k ≤ n ∧ p = .pointer (some ⟨D, 0, none⟩) ∧ b = .int .i64 (base : Int) ∧ s = .slice sa sure.length sc ∧ i = .int .i64 (k : Int) ∧ Hid (Hd w wr D F count base d (.slice sa sure.length sc) sure ∧ base ≤ 9 * k)) (fun p b s i wr => n - (intOf i).toNat)
  case atStart => exact ⟨0, _, _, 0, _, none, 0, [], by omega, rfl, rfl, rfl, rfl, Lib.hid ⟨S2.out, Nat.le_refl _⟩⟩
  case round =>
    obtain ⟨k, D, F, base, d, sa, sc, sure, hk, rfl, rfl, rfl, rfl, HL⟩ := hrel
    clear S2
    by_cases hlt : k < n
    · have hj : k < ss.length := by have := RD.out.len; omega
      obtain ⟨b, off, rfl, hb, hA⟩ := RD.out.at_ k hj
      obtain ⟨p, hp⟩ : ∃ p, p = ss[k] := ⟨_, rfl⟩
      rw [← hp] at hA
      clear hp
      obtain ⟨lens, lv, syncs, sv, fuse, keep, kv, empty⟩ := p
      obtain ⟨la, lc, e1⟩ := hA.rl.shape
      obtain ⟨ya, yc, e2⟩ := hA.rs.shape
      obtain ⟨ka, kc, e3⟩ := hA.rk.shape
      change lv = .slice la lens.length lc at e1
      change sv = .slice ya syncs.length yc at e2
      change kv = .slice ka keep.length kc at e3
      subst e1
      subst e2
      subst e3
      have HB := Lib.hid hb
      have BA := Lib.hid hA
      have i0 : (0 : Int) ≤ (k : Int) := by omega
      have i1 : (k : Int) < (n : Int) := by omega
      have HK := Lib.hid hlt
      have k0 := (HL.out.1.dsk.only.cell HB.out (fun e => e) (off + k * 5)).trans BA.out.k0
      have k1 := (HL.out.1.dsk.only.cell HB.out (fun e => e) (off + k * 5 + 1)).trans BA.out.k1
      have k2 := (HL.out.1.dsk.only.cell HB.out (fun e => e) (off + k * 5 + 2)).trans BA.out.k2
      have k3 := (HL.out.1.dsk.only.cell HB.out (fun e => e) (off + k * 5 + 3)).trans BA.out.k3
      have k4 := (HL.out.1.dsk.only.cell HB.out (fun e => e) (off + k * 5 + 4)).trans BA.out.k4
      clear hb hA hj hlt hk
      go_wp2_with fail
      clear k0 k1 k2 k3 k4
      obtain ⟨T, hT⟩ : ∃ T, T = wr.heap.size := ⟨_, rfl⟩
      obtain ⟨wa, hwa⟩ : ∃ wa, wa = wr.alloc (.cells #[.slice la lens.length lc, .slice ya syncs.length yc, .int .i64 fuse, .slice ka keep.length kc, .bool empty] 89) := ⟨_, rfl⟩
      have oa : Only None' wr wa := by rw [hwa]; exact (Only.refl None' wr).alloc _
      have CA : CellsR wa T [.slice la lens.length lc, .slice ya syncs.length yc, .int .i64 fuse, .slice ka keep.length kc, .bool empty] := by rw [hwa, hT]; exact cells_new wr _ 89
      have hTw : w.heap.size ≤ T := by rw [hT]; exact HL.out.1.dsk.only.size
      have hTF : ¬ F T := fun e => by have := HL.out.1.dsk.at_.lt e; omega
      have HA := HL.out.1.only oa
      have hb9 : base ≤ 1000 := by have := HL.out.2; have := H6.out; have := HK.out; omega
      rw [← hwa, ← hT]
      clear hwa hT oa
      refine (HA.open_ HC.out.1 HC.out.2 hb9).mono ?_
      rintro e w3 ⟨R, ra, rc, rfl, hR, hH, hr, hrec, ho⟩
      have hTa := CA.lt
      have HT := Lib.hid (And.intro hTw (And.intro hTF (show T ≠ R by omega)))
      have C3 := Lib.hid (CA.kept ho fun e => e)
      have H3 := Lib.hid hH
      have R3 := Lib.hid hr
      have hRw : w.heap.size ≤ R := by omega
      have hRF : ¬ F R := fun e => by have := HA.dsk.at_.lt e; omega
      have HR := Lib.hid (And.intro hRw hRF)
      have L3 : Hid (Recs w3 (fun k => w.heap.size ≤ k ∧ k ≠ R ∧ ¬ F k ∧ T < k) (.slice ra sure.length rc) sure) := Lib.hid (hrec.mono fun k _ p => ⟨by omega, p.2, fun e => by have := HA.dsk.at_.lt e; omega, by omega⟩)
      have HBK := Lib.hid HL.out.2
      clear CA hTw hTF HA hR hH hr hrec ho hTa hRw hRF hb9 HL
      go_wp2_with fail
      refine (begins_any L3.out.tells H3.out.tells ⟨[], List.append_nil _⟩).mono ?_
      rintro e w4 ⟨rfl, q, hq⟩
      have o4 : Only None' w3 w4 := by rw [hq]; exact (Only.refl _ _).drewN q
      have C4 := Lib.hid (C3.out.kept o4 fun e => e)
      have H4 := Lib.hid (H3.out.only o4)
      have R4 := Lib.hid (CellsR.kept R3.out o4 fun e => e)
      have L4 := Lib.hid (L3.out.only o4 fun _ _ e => e)
      clear o4 hq L3 R3 H3 C3
      obtain ⟨rg, hrg⟩ : ∃ rg, rg = Rg.opened 3 count base (gAt 3 d) := ⟨_, rfl⟩
      rw [← hrg] at R4
      have HRG := Lib.hid hrg
      have HBS := Lib.hid (show base ≤ 9 * k from HBK.out)
      obtain ⟨tp, htp⟩ : ∃ tp, tp = rg.top := ⟨_, rfl⟩
      obtain ⟨ls, hls⟩ : ∃ ls, ls = rg.last := ⟨_, rfl⟩
      have HTP := Lib.hid (And.intro htp hls)
      have B47 : Hid (Calls Try.prog 47 #[.pointer (some ⟨R, 0, none⟩)] w4 fun e w' => e = .returned (.int .i64 (tp : Int)) ∧ w4 = w') := Lib.hid (by rw [htp]; exact (top_any R4.out).mono fun _ _ h => ⟨h.1, h.2.symm⟩)
      have B43 : Hid (Calls Try.prog 43 #[.pointer (some ⟨R, 0, none⟩)] w4 fun e w' => e = .returned (.int .i64 (ls : Int)) ∧ w4 = w') := Lib.hid (by rw [hls]; exact (rlast_any R4.out).mono fun _ _ h => ⟨h.1, h.2.symm⟩)
      have HS := Lib.hid (show w.heap.size ≤ w4.heap.size from H4.out.dsk.only.size)
      have HDD := Lib.hid H4.out.dead
      have c4 := C4.out.is 4 _ rfl
      clear hrg htp hls
      go_upto_region 16 with fail
      go_cut [76] from 68 to 75 (fun z76 wx => ∃ tb : Bool, z76 = .bool tb ∧ wx = w4 ∧ Hid (tb = (decide (ls < tp) || empty)))
      case first =>
        as_aux_lemma =>
        by_cases ht : ls < tp
        · have HT2 := Lib.hid ht
          have e1 : decide ((ls : Int) < (tp : Int)) = true := by rw [decide_eq_true_eq]; omega
          have e2 : decide (ls < tp) = true := by rw [decide_eq_true_eq]; exact ht
          clear ht
          go_wp2_with (first | (go_at_call 47; refine B47.out.mono ?_; rintro e w' ⟨rfl, rfl⟩) | (go_at_call 43; refine B43.out.mono ?_; rintro e w' ⟨rfl, rfl⟩))
          go_meet
          exact ⟨true, rfl, rfl, by rw [decide_eq_true HT2.out]; rfl⟩
        · have HT2 := Lib.hid ht
          have e1 : decide ((ls : Int) < (tp : Int)) = false := by rw [decide_eq_false_iff_not]; omega
          have e2 : decide (ls < tp) = false := by rw [decide_eq_false_iff_not]; exact ht
          clear ht
          go_wp2_with (first | (go_at_call 47; refine B47.out.mono ?_; rintro e w' ⟨rfl, rfl⟩) | (go_at_call 43; refine B43.out.mono ?_; rintro e w' ⟨rfl, rfl⟩))
          go_meet
          exact ⟨empty, rfl, rfl, by rw [decide_eq_false HT2.out]; rfl⟩
      case rest =>
      obtain ⟨tb, rfl, e4, HTB⟩ := hcut
      obtain rfl := e4.symm
      clear B47 B43 c4
      go_upto_if 76 with fail
      go_cut [7, 12] from 77 to 78 (fun z7 z12 wx => ∃ (base' : Nat) (la' : Option Addr) (lc' : Nat) (P : List Pc) (l : List Rec), z7 = .int .i64 (base' : Int) ∧ z12 = .slice la' l.length lc' ∧ Hid (Cx w wx R D F count base' d P P.length 0 ∧ l = grp P [] ∧ Recs wx (fun k => w.heap.size ≤ k ∧ k ≠ R ∧ ¬ F k ∧ T < k) (.slice la' l.length lc') l ∧ CellsR wx T [.slice la lens.length lc, .slice ya syncs.length yc, .int .i64 fuse, .slice ka keep.length kc, .bool empty] ∧ base' ≤ base + 9))
      case first =>
        as_aux_lemma =>
        cases tb with
        | true =>
          have empties : ∀ w5, RingAt w5 R D rg.emptied → Only (fun k => k = R) w4 w5 → ∃ (base' : Nat) (la' : Option Addr) (lc' : Nat) (P : List Pc) (l : List Rec), Value.int .i64 (rg.top : Int) = .int .i64 (base' : Int) ∧ Value.slice none 0 0 = .slice la' l.length lc' ∧ Hid (Cx w w5 R D F count base' d P P.length 0 ∧ l = grp P [] ∧ Recs w5 (fun k => w.heap.size ≤ k ∧ k ≠ R ∧ ¬ F k ∧ T < k) (.slice la' l.length lc') l ∧ CellsR w5 T [.slice la lens.length lc, .slice ya syncs.length yc, .int .i64 fuse, .slice ka keep.length kc, .bool empty] ∧ base' ≤ base + 9) := fun w5 hr5 o5 => by
            have hH := H4.out
            have hd5 : Dsk w w5 D F d := hH.dsk.other (Kept.only' o5) (fun i hi => by have := HR.out.1; omega) fun i hi e => HR.out.2 (e ▸ hi)
            rw [HRG.out] at hr5
            obtain ⟨h1, h2⟩ := hH.begin_empty hd5 HC.out.1 HR.out.1 HR.out.2 hr5
            refine ⟨topG count (gAt 3 d) base count, none, 0, [], [], by rw [HRG.out]; rfl, rfl, Lib.hid ⟨h1, rfl, Recs.nil _ _, C4.out.kept o5 fun e => HT.out.2.2 e, by have := HC.out.2; omega⟩⟩
          have E := Lib.hid empties
          clear empties
          go_wp2_with fail
          refine (empty_any R4.out).mono ?_
          rintro e w5 ⟨rfl, hr5, o5⟩
          have E5 := Lib.hid (E.out w5 hr5 o5)
          clear hr5 o5
          go_wp2_with fail
          go_meet
          exact E5.out
        | false =>
          go_wp2_with fail
          go_meet
          have hno : ¬ ls < tp := fun e => by have := HTB.out; rw [decide_eq_true e] at this; cases this
          obtain ⟨P, h1, h2⟩ := H4.out.begin_whole HC.out.1 HR.out.1 HR.out.2 (by rw [← HRG.out]; exact R4.out) (by rw [← HRG.out, ← HTP.out.1, ← HTP.out.2]; exact Nat.le_of_not_lt hno)
          exact ⟨base, ra, rc, P, sure, rfl, rfl, Lib.hid ⟨h1, h2.symm, L4.out, C4.out, by omega⟩⟩
      case rest =>
        obtain ⟨base', la', lc', P, l, rfl, rfl, HX⟩ := hcut
        clear L4 C4 R4 HRG HTP HTB H4 e4
        have hl9 : l.length ≤ 9 := by
          have h1 := (HX.out.1.alive HDD.out).2.2.fit
          have h2 := grp_len P []
          have h3 := HX.out.2.1
          have h4 := HC.out.2
          rw [h3]; omega
        have HL9 := Lib.hid hl9
        clear hl9
        obtain ⟨xs, hx, hrow⟩ := HX.out.2.2.1.rows
        have HXV := Lib.hid hx
        have HRW := Lib.hid hrow
        have HXL := Lib.hid (show xs.length = l.length by have := hx.len; omega)
        have HONE := Lib.hid (rows_one (Q := fun x => ∀ k, x.ownBlock = some k → (w.heap.size ≤ k ∧ k ≠ R ∧ ¬F k ∧ T < k) ∧ (Value.slice la' l.length lc').ownBlock ≠ some k) HXL.out hrow)
        clear hx hrow
        have HB9 := Lib.hid (show base' ≤ 9 * (k + 1) ∧ base' ≤ 1000 by have h1 := HX.out.2.2.2.2; have h2 := HBS.out; have h3 := H6.out; have h4 := HK.out; omega)
        go_upto_region 20 with fail
        go_cut [14] from 80 to 82 (fun z14 wx => ∃ (oa : Option Addr) (oc : Nat), z14 = .slice oa l.length oc ∧ Hid (Rn w wx R D F count base' d P P.length 0 (.slice oa l.length oc) (.slice la' l.length lc') l l T [.slice la lens.length lc, .slice ya syncs.length yc, .int .i64 fuse, .slice ka keep.length kc, .bool empty]))
        case first =>
          as_aux_lemma =>
          go_wp2_with (first | (at_builtin; refine wpList_append_any rfl _ _ 64 rfl 34 Try.t34 (.slice none 0 0) 1 24 Try.underlying64 info34 t34_zero t34_size t34_bytes rfl (by decide) (.slice (some ⟨wc.heap.size, 0, none⟩) 0 0) 0 [] rfl (empty_row wc 34 1) (.slice la' l.length lc') l.length xs rfl (HXV.out.alloc _).rd HONE.out (by have := HL9.out; unfold maxLen; omega) (by have := HL9.out; omega) ?_; intro v2 w8 hv2 hg2 hf2; have hv3 := hv2; rw [Nat.zero_add, List.nil_append] at hv3; obtain ⟨oa, oc, rfl, _, _⟩ := hv3.shape; have HY := Lib.hid (And.intro hv2 (And.intro hg2 hf2)); clear hv2 hg2 hf2 hv3))
          go_meet
          have hstart := Ls.start (HX.out.2.2.1.mono fun k _ p => ⟨p.1, p.2.1, p.2.2.1⟩) HXL.out (fun i hi => by
            obtain ⟨x, a1, b1, c1⟩ := HRW.out i hi
            exact ⟨x, a1, b1, fun k hk => ⟨⟨(c1 k hk).1.1, (c1 k hk).1.2.1, (c1 k hk).1.2.2.1⟩, (c1 k hk).2⟩⟩) rfl HY.out.1 HY.out.2.1 HY.out.2.2 HX.out.1.dsk.only.size HX.out.1.rlt fun k hk => HX.out.1.dsk.at_.lt hk
          obtain ⟨ls1, o8, hfr8⟩ := hstart
          have RN : Hid (Rn w w8 R D F count base' d P P.length 0 (.slice oa l.length oc) (.slice la' l.length lc') l l T [.slice la lens.length lc, .slice ya syncs.length yc, .int .i64 fuse, .slice ka keep.length kc, .bool empty]) := Lib.hid ⟨HX.out.1.only o8, ls1, HX.out.2.1, by rw [List.take_length]; exact HX.out.2.1, HX.out.2.2.2.1.kept o8 fun e => e, HT.out.2.2, HT.out.2.1, fun k hk => by have h1 := hfr8 k hk; have h2 := HX.out.2.2.2.1.lt; omega, HT.out.1⟩
          exact ⟨oa, oc, rfl, RN⟩
        case rest =>
        obtain ⟨oa, oc, rfl, RN⟩ := hcut
        clear HX HXV HRW HXL HONE HL9
        rename World => w8
        have c2 := RN.out.box.is 2 _ rfl
        have c3 := RN.out.box.is 3 _ rfl
        by_cases hkp : 200 < keep.length
        · as_aux_lemma =>
          have e1 : decide ((200 : Int) < (keep.length : Int)) = true := by rw [decide_eq_true_eq]; omega
          have e2 : decide (200 < keep.length) = true := by rw [decide_eq_true_eq]; exact hkp
          clear hkp
          go_wp2_with fail
          go_ret
          exact ⟨rfl, RN.out.cx.dsk.only.below (Nat.le_refl _) fun _ e => e.elim⟩
        have HKP := Lib.hid hkp
        have e1 : decide ((200 : Int) < (keep.length : Int)) = false := by rw [decide_eq_false_iff_not]; omega
        have e2 : decide (200 < keep.length) = false := by rw [decide_eq_false_iff_not]; exact hkp
        obtain ⟨f, hf, hf40⟩ := mod40 fuse
        have HF40 := Lib.hid hf40
        clear hkp hf40
        go_wp2_with fail
        rw [hf]
        clear hf e1 e2 c2 c3
        refine (RN.out.cx.fused HDD.out (f := f) rfl (by have := HF40.out; omega) (BA.out.rk.only RN.out.cx.dsk.only fun _ _ _ _ e => e) BA.out.mkp).mono ?_
        rintro e w9 ⟨rfl, F9, hc9, hk9⟩
        have RN9 : Hid (Rn w w9 R D F9 count base' (d.fused f keep) P P.length (18 * 0) (.slice oa l.length oc) (.slice la' l.length lc') l l T [.slice la lens.length lc, .slice ya syncs.length yc, .int .i64 fuse, .slice ka keep.length kc, .bool empty]) := Lib.hid (RN.out.step (hk9.more R) hc9)
        clear hc9 hk9 RN
        go_wp2_with fail
        go_loopw [8, 14, 15] (fun s8 s14 i wr2 => ∃ (kk : Nat) (F : Nat → Prop) (d : Dk) (P : List Pc) (av : Nat) (all sure : List Rec) (oa : Option Addr) (oc : Nat) (sa : Option Addr) (sc : Nat), kk ≤ lens.length ∧ kk ≤ 20 ∧ s8 = .slice sa sure.length sc ∧ s14 = .slice oa all.length oc ∧ i = .int .i64 (kk : Int) ∧ Hid (Rn w wr2 R D F count base' d P av (18 * kk) (.slice oa all.length oc) (.slice sa sure.length sc) all sure T [.slice la lens.length lc, .slice ya syncs.length yc, .int .i64 fuse, .slice ka keep.length kc, .bool empty])) (fun s8 s14 i wr2 => lens.length - (intOf i).toNat)
        case atStart => exact ⟨0, _, _, _, _, _, _, _, _, _, _, by omega, by omega, rfl, rfl, rfl, RN9⟩
        case round =>
          clear RN9 HKP HF40
          obtain ⟨kk, F2, d2, P2, av, all, sr, pa, pc, qa, qc, hkk, hk20, rfl, rfl, rfl, RN2⟩ := hrel
          rename World => wx
          have c0 := RN2.out.box.is 0 _ rfl
          have c1 := RN2.out.box.is 1 _ rfl
          obtain ⟨db, hdb⟩ : ∃ db, db = d2.dead := ⟨_, rfl⟩
          have HDB := Lib.hid hdb
          have B15 := Lib.hid (RN2.out.cx.dsk.isDead hdb.symm)
          have HKK := Lib.hid (And.intro hkk hk20)
          clear hdb
          go_upto_region 24 with fail
          go_cut [116] from 103 to 115 (fun z wy => ∃ tb : Bool, z = .bool tb ∧ wy = wx ∧ Hid (tb = (decide (kk < lens.length) && (decide (kk < 20) && !db))))
          case first =>
            as_aux_lemma =>
            clear hkk hk20
            by_cases h1 : kk < lens.length
            · have e1 : decide ((kk : Int) < (lens.length : Int)) = true := by rw [decide_eq_true_eq]; omega
              have e2 : decide (kk < lens.length) = true := by rw [decide_eq_true_eq]; exact h1
              by_cases h2 : kk < 20
              · have e3 : decide ((kk : Int) < 20) = true := by rw [decide_eq_true_eq]; omega
                have e4 : decide (kk < 20) = true := by rw [decide_eq_true_eq]; exact h2
                clear h1 h2
                go_wp2_with (first | (go_at_call 15; refine B15.out.mono ?_; rintro e w' ⟨rfl, rfl⟩))
                go_meet
                exact ⟨!db, rfl, rfl, by rw [e2, e4]; rfl⟩
              · have e3 : decide ((kk : Int) < 20) = false := by rw [decide_eq_false_iff_not]; omega
                have e4 : decide (kk < 20) = false := by rw [decide_eq_false_iff_not]; exact h2
                clear h1 h2
                go_wp2_with (first | (go_at_call 15; refine B15.out.mono ?_; rintro e w' ⟨rfl, rfl⟩))
                go_meet
                exact ⟨false, rfl, rfl, by rw [e2, e4]; rfl⟩
            · have e1 : decide ((kk : Int) < (lens.length : Int)) = false := by rw [decide_eq_false_iff_not]; omega
              have e2 : decide (kk < lens.length) = false := by rw [decide_eq_false_iff_not]; exact h1
              clear h1
              go_wp2_with (first | (go_at_call 15; refine B15.out.mono ?_; rintro e w' ⟨rfl, rfl⟩))
              go_meet
              exact ⟨false, rfl, rfl, by rw [e2]; rfl⟩
          case rest =>
          obtain ⟨tb, rfl, e4, HTB⟩ := hcut
          obtain rfl := e4.symm
          clear e4 c1
          cases tb with
          | true =>
            have hh : kk < lens.length ∧ kk < 20 ∧ db = false := by have := HTB.out; simpa using this.symm
            obtain ⟨hl1, hl2, hl3⟩ := hh
            have HDA := Lib.hid (HDB.out.symm.trans hl3)
            have HLL := Lib.hid (And.intro hl1 hl2)
            obtain ⟨g, off2, cap, e, hg, hcell⟩ := BA.out.rl.at_ (show 0 < lens.length * 1 by omega)
            injection e with e e' e''
            subst e
            clear e' e''
            have cz := (RN2.out.cx.dsk.only.cell hg (fun e => e) (off2 + kk)).trans (hcell kk _ (by rw [List.getElem?_map, List.getElem?_eq_getElem hl1]; rfl))
            obtain ⟨z, hz⟩ : ∃ z, z = lens[kk] := ⟨_, rfl⟩
            rw [← hz] at cz
            obtain ⟨L, hL, hL2⟩ := mod1300 z
            obtain ⟨w4, hm, hV, o4, l4⟩ := make34 L wx (by omega)
            have HV := Lib.hid hV
            have O4 := Lib.hid (And.intro o4 l4)
            have HL2 := Lib.hid hL2
            have i0 : (0 : Int) ≤ (kk : Int) := by omega
            have i1 : (kk : Int) < (lens.length : Int) := by omega
            have hm0 : (0 : Int) ≤ (L : Int) := by omega
            clear hcell hz hV o4 l4 hL2 hg hl1 hl2 hl3 hkk hk20 HTB B15
            go_wp2_with fail
            clear hm cz hL i0 i1 hm0 c0
            go_loopw [17] (fun i wy => ∃ (j : Nat) (r : Sec), j ≤ L ∧ i = .int .i64 (j : Int) ∧ r.length = L ∧ Hid (Vec wy 1 (.slice (some ⟨wx.heap.size, 0, none⟩) L L) L (bv r) ∧ Only None' wx wy)) (fun i wy => L - (intOf i).toNat)
            case atStart => exact ⟨0, _, by omega, rfl, List.length_replicate, Lib.hid ⟨HV.out, O4.out.1⟩⟩
            case round =>
              obtain ⟨j, r, hj, rfl, hs, HJ⟩ := hrel
              rename World => wy
              by_cases hlt2 : j < L
              · as_aux_lemma =>
                have j0 : (0 : Int) ≤ (j : Int) := by omega
                have j1 : (j : Int) < (L : Int) := by omega
                obtain ⟨f1, f2⟩ := HJ.out.1.free (k := j) (by omega)
                rw [Nat.zero_add] at f1 f2
                obtain ⟨u, hu⟩ := Option.isSome_iff_exists.1 f1
                clear f1
                go_wp2_with fail
                obtain ⟨b8, hb8⟩ := u8_mod2 (wrap64 (wrap64 (wrap64 ((k : Int) * 40) + (kk : Int)) + (j : Int)))
                rw [hb8]
                refine ⟨⟨j + 1, r.set j b8, by omega, next_int (by have := HL2.out; omega), by rw [List.length_set]; exact hs, Lib.hid ⟨?_, HJ.out.2.setNew (Nat.le_refl _) _ _⟩⟩, meas hlt2 (by have := HL2.out; omega)⟩
                rw [← bv_set]
                exact HJ.out.1.set1 hlt2 _
              · obtain rfl : j = L := by omega
                have HS := Lib.hid hs
                have hvx := HJ.out.1
                rw [← hs] at hvx
                have RN3 := Lib.hid (RN2.out.only HJ.out.2)
                obtain ⟨B, hB⟩ : ∃ B, B = wx.heap.size := ⟨_, rfl⟩
                have hnew : w.heap.size ≤ B := by rw [hB]; exact RN2.out.cx.dsk.only.size
                have hBx : B < wy.heap.size := by rw [hB]; have h2 := hvx.lt (k := wx.heap.size) rfl; exact h2
                have hBR : B ≠ R := by rw [hB]; have := RN2.out.cx.rlt; omega
                have hBF : ¬ F2 B := fun e => by have := RN2.out.cx.dsk.at_.lt e; omega
                rw [← hB] at hvx
                have HVX := Lib.hid hvx
                have HBB := Lib.hid (And.intro hnew (And.intro hBx (And.intro hBR hBF)))
                have HOWN : Hid (∀ k, (Value.slice pa all.length pc).ownBlock = some k → k ≠ B) := Lib.hid fun k' hk' e => by
                  obtain ⟨_, xs, hx, _⟩ := RN2.out.ls.al
                  have := hx.lt hk'
                  omega
                have HAV : Hid (av ≤ P2.length) := Lib.hid (RN3.out.cx.alive HDA.out).2.2.upto
                have HA20 : Hid (all.length ≤ 20) := Lib.hid (by
                  have h1 := (RN3.out.cx.alive HDA.out).2.2.fit
                  have h2 := grp_len P2 []
                  have h3 := RN3.out.eall
                  have h4 := HC.out.2
                  rw [h3]; omega)
                rw [← hB]
                clear hB hnew hBx hBR hBF hvx HJ RN2 HV O4 hlt2 hj
                go_wp2_with fail
                refine (RN3.out.cx.append HDA.out HC.out.2 HB9.out.2 (by have := HLL.out; omega) (rec := r) (m := j) HS.out (by rw [HS.out]; have := HVX.out.rd; rwa [HS.out] at this) (Nat.le_refl _) (by have := HL2.out; unfold maxLen; omega) HBB.out.2.2.2 HBB.out.2.1 HBB.out.2.2.1 (by have := HL2.out; omega)).mono ?_
                rintro e w5 ⟨code, F3, rfl, hk5, hcase⟩
                have HK5 := Lib.hid hk5
                have HCASE := Lib.hid hcase
                clear hk5 hcase
                rcases HCASE.out with ⟨hc0, hc20, hcx⟩ | ⟨hcode, d3, hcx, hdd, hgrp⟩
                · as_aux_lemma =>
                  have HCX := Lib.hid hcx
                  have e1 : (code == 0) = false := by simpa using hc0
                  have e2 : (code == 20) = false := by simpa using hc20
                  clear hcx hc0 hc20 HCASE
                  go_wp2_with fail
                  go_roundw
                  case rel => exact ⟨kk + 1, F3, d2, P2, av, all, sr, pa, pc, qa, qc, by have := HLL.out; omega, by have := HLL.out; omega, rfl, rfl, next_int (by have := HLL.out; omega), Lib.hid ((RN3.out.step HK5.out HCX.out).more (by omega))⟩
                  case measure => exact meas_len HLL.out.1 (by have h := BA.out.ml; have h : lens.length ≤ 140737488351232 := h; unfold maxLen; omega)
                · obtain ⟨qs, hqs⟩ : ∃ qs, qs = cutR (base' + P2.length) r := ⟨_, rfl⟩
                  rw [← hqs] at hcx hgrp
                  have HCX := Lib.hid hcx
                  have HGR := Lib.hid hgrp
                  have HD3 := Lib.hid hdd
                  have LS5 := Lib.hid (RN3.out.ls.far HK5.out)
                  obtain ⟨xs, hx, hrow⟩ := LS5.out.al.rows
                  have HXV := Lib.hid hx
                  have HXL := Lib.hid (show xs.length = all.length by have := hx.len; omega)
                  have HRW := Lib.hid hrow
                  have HV5 := Lib.hid (HVX.out.only HK5.out.only fun k hk e => by
                    injection hk with hk
                    have hk : B = k := hk
                    subst hk
                    exact e.elim HBB.out.2.2.2 HBB.out.2.2.1)
                  have HB5 : Hid ((w.heap.size ≤ B ∧ B ≠ R ∧ ¬ F3 B) ∧ (Value.slice pa all.length pc).ownBlock ≠ some B) := Lib.hid ⟨⟨HBB.out.1, HBB.out.2.2.1, fun e => by
                    rcases HK5.out.fresh B (Or.inl e) with (h | h) | h
                    · exact HBB.out.2.2.2 h
                    · exact HBB.out.2.2.1 h
                    · have := HBB.out.2.1; omega⟩, fun e => HOWN.out B e rfl⟩
                  clear hcx hdd hgrp hqs hx hrow HCASE HVX HBB HOWN
                  rcases hcode with rfl | rfl
                  · go_upto_region 33 with fail
                    go_cut [14] from 153 to 156 (fun z wz => ∃ (oa2 : Option Addr) (oc2 : Nat), z = .slice oa2 (all ++ [r]).length oc2 ∧ Hid (Rn w wz R D F3 count base' d3 (P2 ++ qs) av (18 * kk + 9) (.slice oa2 (all ++ [r]).length oc2) (.slice qa sr.length qc) (all ++ [r]) sr T [.slice (some ⟨g, off2, none⟩) lens.length lc, .slice ya syncs.length yc, .int .i64 fuse, .slice ka keep.length kc, .bool empty]))
                    case first =>
                      as_aux_lemma =>
                      go_wp2_with (first | (at_builtin; refine wpList_append_two rfl _ _ 64 rfl 34 Try.t34 (.slice none 0 0) 1 24 Try.underlying64 info34 t34_zero t34_size t34_bytes rfl (by decide) (.slice pa all.length pc) all.length xs rfl (HXV.out.alloc _) ⟨w5.heap.size, 0, none⟩ 1 1 [.slice (some ⟨B, 0, none⟩) j j] rfl rfl (cell_one' w5 _ 34) (one_slice _ _ _) (by have := HA20.out; unfold maxLen; omega) (by have := HA20.out; omega) ?_; intro v2 w8 hv2 hc2; obtain ⟨oa2, oc2, rfl, _, _⟩ := hv2.shape; have HY := Lib.hid (And.intro hv2 hc2); clear hv2 hc2))
                      go_meet
                      obtain ⟨g1, g2, g3⟩ := Ls.push (LS5.out) HXL.out HXV.out HRW.out (x := .slice (some ⟨B, 0, none⟩) j j) (rec := r) (by have := HV5.out; rw [HS.out] at this ⊢; exact this) (fun k hk => by injection hk with hk; have hk : B = k := hk; subst hk; exact HB5.out) HCX.out.dsk.only.size HCX.out.rlt (fun k hk => HCX.out.dsk.at_.lt hk) HY.out.1 HY.out.2
                      exact ⟨oa2, oc2, by rw [List.length_append]; rfl, Lib.hid (by have h5 := RN3.out.pushed HK5.out HCX.out HAV.out HGR.out g1 g2 g3; rw [List.length_append]; exact h5)⟩
                    case rest =>
                    obtain ⟨oa2, oc2, rfl, RN5⟩ := hcut
                    rename World => wz
                    clear LS5 HXV HRW HXL HV5 HB5 HCX HGR HK5 RN3 HS
                    have HD0 := Lib.hid (HD3.out.1 (by simp))
                    clear HD3 HAV HA20
                    have c1 := RN5.out.box.is 1 _ rfl
                    by_cases hs1 : kk < syncs.length
                    · obtain ⟨gy, oy, capy, ey, hgy, hcell⟩ := BA.out.rs.at_ (show 0 < syncs.length * 1 by omega)
                      injection ey with ey ey' ey''
                      subst ey
                      clear ey' ey''
                      have cz := (RN5.out.cx.dsk.only.cell hgy (fun e => e) (oy + kk)).trans (hcell kk _ (by rw [bo, List.getElem?_map, List.getElem?_eq_getElem hs1]; rfl))
                      obtain ⟨sb, hsb⟩ : ∃ sb, sb = syncs[kk] := ⟨_, rfl⟩
                      rw [← hsb] at cz
                      have i0 : (0 : Int) ≤ (kk : Int) := by omega
                      have i1 : (kk : Int) < (syncs.length : Int) := by omega
                      have e1 : decide ((kk : Int) < (syncs.length : Int)) = true := by rw [decide_eq_true_eq]; omega
                      have e2 : decide (kk < syncs.length) = true := by rw [decide_eq_true_eq]; exact hs1
                      clear hsb hcell hgy hs1
                      cases sb with
                      | false =>
                        as_aux_lemma =>
                        go_wp2_with fail
                        go_roundw
                        case rel => exact ⟨kk + 1, F3, d3, P2 ++ qs, av, all ++ [r], sr, oa2, oc2, qa, qc, by have := HLL.out; omega, by have := HLL.out; omega, rfl, rfl, next_int (by have := HLL.out; omega), Lib.hid (RN5.out.more (by omega))⟩
                        case measure => exact meas_len HLL.out.1 (by have h := BA.out.ml; have h : lens.length ≤ 140737488351232 := h; unfold maxLen; omega)
                      | true =>
                        as_aux_lemma =>
                        obtain ⟨xs, hx, _⟩ := RN5.out.ls.al.rows
                        obtain ⟨am, cm, em, hm1, hm2⟩ := hx.shape
                        injection em with ea el ec
                        subst ea
                        subst ec
                        clear el
                        obtain ⟨gz, oz, capz, ez, _, _⟩ := hx.rd.at_ (by rw [List.length_append]; simp)
                        injection ez with ez ez' ez''
                        subst ez
                        clear ez' ez'' hx
                        have HM1 := Lib.hid hm1
                        obtain ⟨al2, hal2⟩ : ∃ al2, al2 = all ++ [r] := ⟨_, rfl⟩
                        rw [← hal2] at RN5 hm1 ⊢
                        obtain ⟨m, hm⟩ : ∃ m, m = al2.length := ⟨_, rfl⟩
                        have HMM := Lib.hid hm
                        rw [← hm] at hm1 ⊢
                        have m0 : (0 : Int) ≤ (m : Int) := by omega
                        have m1 : (m : Int) ≤ (oc2 : Int) := by omega
                        clear hm1 hm2 hal2 hm HM1
                        go_wp2_with fail
                        refine (RN5.out.cx.sync HD0.out (by have := HLL.out; omega)).mono ?_
                        rintro e w6 ⟨code, F6, d6, rfl, hk6, hcase⟩
                        have HK6 := Lib.hid hk6
                        have HCASE := Lib.hid hcase
                        clear hk6 hcase
                        rcases HCASE.out with ⟨rfl, hc6, hd6⟩ | ⟨rfl, hc6, hd6⟩
                        · have RN6 := Lib.hid (RN5.out.synced (HK6.out.more R) hc6)
                          clear hc6 hd6 HCASE
                          go_wp2_with fail
                          go_roundw
                          case rel => exact ⟨kk + 1, F6, d6, P2 ++ qs, (P2 ++ qs).length, al2, al2, some ⟨gz, oz, none⟩, oc2, some ⟨gz, oz, none⟩, oc2, by have := HLL.out; omega, by have := HLL.out; omega, by rw [HMM.out], by rw [HMM.out], next_int (by have := HLL.out; omega), Lib.hid (RN6.out.more (by omega))⟩
                          case measure => exact meas_len HLL.out.1 (by have h := BA.out.ml; have h : lens.length ≤ 140737488351232 := h; unfold maxLen; omega)
                        · have RN6 := Lib.hid (RN5.out.step (HK6.out.more R) hc6)
                          clear hc6 hd6 HCASE
                          go_wp2_with fail
                          go_roundw
                          case rel => exact ⟨kk + 1, F6, d6, P2 ++ qs, av, al2, sr, some ⟨gz, oz, none⟩, oc2, qa, qc, by have := HLL.out; omega, by have := HLL.out; omega, rfl, by rw [HMM.out], next_int (by have := HLL.out; omega), Lib.hid (RN6.out.more (by omega))⟩
                          case measure => exact meas_len HLL.out.1 (by have h := BA.out.ml; have h : lens.length ≤ 140737488351232 := h; unfold maxLen; omega)
                    · as_aux_lemma =>
                      have e1 : decide ((kk : Int) < (syncs.length : Int)) = false := by rw [decide_eq_false_iff_not]; omega
                      have e2 : decide (kk < syncs.length) = false := by rw [decide_eq_false_iff_not]; exact hs1
                      clear hs1
                      go_wp2_with fail
                      go_roundw
                      case rel => exact ⟨kk + 1, F3, d3, P2 ++ qs, av, all ++ [r], sr, oa2, oc2, qa, qc, by have := HLL.out; omega, by have := HLL.out; omega, rfl, rfl, next_int (by have := HLL.out; omega), Lib.hid (RN5.out.more (by omega))⟩
                      case measure => exact meas_len HLL.out.1 (by have h := BA.out.ml; have h : lens.length ≤ 140737488351232 := h; unfold maxLen; omega)
                  · go_upto_region 33 with fail
                    go_cut [14] from 153 to 156 (fun z wz => ∃ (oa2 : Option Addr) (oc2 : Nat), z = .slice oa2 (all ++ [r]).length oc2 ∧ Hid (Rn w wz R D F3 count base' d3 (P2 ++ qs) av (18 * kk + 9) (.slice oa2 (all ++ [r]).length oc2) (.slice qa sr.length qc) (all ++ [r]) sr T [.slice (some ⟨g, off2, none⟩) lens.length lc, .slice ya syncs.length yc, .int .i64 fuse, .slice ka keep.length kc, .bool empty]))
                    case first =>
                      as_aux_lemma =>
                      go_wp2_with (first | (at_builtin; refine wpList_append_two rfl _ _ 64 rfl 34 Try.t34 (.slice none 0 0) 1 24 Try.underlying64 info34 t34_zero t34_size t34_bytes rfl (by decide) (.slice pa all.length pc) all.length xs rfl (HXV.out.alloc _) ⟨w5.heap.size, 0, none⟩ 1 1 [.slice (some ⟨B, 0, none⟩) j j] rfl rfl (cell_one' w5 _ 34) (one_slice _ _ _) (by have := HA20.out; unfold maxLen; omega) (by have := HA20.out; omega) ?_; intro v2 w8 hv2 hc2; obtain ⟨oa2, oc2, rfl, _, _⟩ := hv2.shape; have HY := Lib.hid (And.intro hv2 hc2); clear hv2 hc2))
                      go_meet
                      obtain ⟨g1, g2, g3⟩ := Ls.push (LS5.out) HXL.out HXV.out HRW.out (x := .slice (some ⟨B, 0, none⟩) j j) (rec := r) (by have := HV5.out; rw [HS.out] at this ⊢; exact this) (fun k hk => by injection hk with hk; have hk : B = k := hk; subst hk; exact HB5.out) HCX.out.dsk.only.size HCX.out.rlt (fun k hk => HCX.out.dsk.at_.lt hk) HY.out.1 HY.out.2
                      exact ⟨oa2, oc2, by rw [List.length_append]; rfl, Lib.hid (by have h5 := RN3.out.pushed HK5.out HCX.out HAV.out HGR.out g1 g2 g3; rw [List.length_append]; exact h5)⟩
                    case rest =>
                    obtain ⟨oa2, oc2, rfl, RN5⟩ := hcut
                    rename World => wz
                    clear LS5 HXV HRW HXL HV5 HB5 HCX HGR HK5 RN3 HS
                    as_aux_lemma =>
                    clear HD3 HAV HA20
                    go_wp2_with fail
                    go_roundw
                    case rel => exact ⟨kk + 1, F3, d3, P2 ++ qs, av, all ++ [r], sr, oa2, oc2, qa, qc, by have := HLL.out; omega, by have := HLL.out; omega, rfl, rfl, next_int (by have := HLL.out; omega), Lib.hid (RN5.out.more (by omega))⟩
                    case measure => exact meas_len HLL.out.1 (by have h := BA.out.ml; have h : lens.length ≤ 140737488351232 := h; unfold maxLen; omega)
          | false =>
            have HN := Lib.hid (show 18 * kk ≤ 360 by omega)
            have c3 := RN2.out.box.is 3 _ rfl
            clear c0 HTB HKK hkk hk20
            go_upto_region 38 with fail
            go_cut [190] from 181 to 189 (fun z wz => ∃ (F3 : Nat → Prop) (d3 : Dk), z = .bool false ∧ Hid (d3.dead = true) ∧ Hid (Rn w wz R D F3 count base' d3 P2 av 400 (.slice pa all.length pc) (.slice qa sr.length qc) all sr T [.slice la lens.length lc, .slice ya syncs.length yc, .int .i64 fuse, .slice ka keep.length kc, .bool empty]))
            case first =>
              as_aux_lemma =>
              cases db with
              | true =>
                go_wp2_with (first | (go_at_call 15; refine B15.out.mono ?_; rintro e w' ⟨rfl, rfl⟩))
                go_meet
                exact ⟨F2, d2, rfl, Lib.hid HDB.out.symm, Lib.hid (RN2.out.more (by have := HN.out; omega))⟩
              | false =>
                have HCR := Lib.hid (RN2.out.cx.crash HDB.out.symm (by have := HN.out; omega) (BA.out.rk.only RN2.out.cx.dsk.only fun _ _ _ _ e => e) fun hne g hg e => by
                  have h1 := BA.out.rk.lt hne hg
                  have h2 := RN2.out.cx.dsk.fresh g e
                  omega)
                go_wp2_with (first | (go_at_call 15; refine B15.out.mono ?_; rintro e w' ⟨rfl, rfl⟩) | (go_at_call 18; refine HCR.out.mono ?_; rintro e w5 ⟨rfl, F3, d3, hc3, hd3, hk3⟩; have RN4 := Lib.hid (RN2.out.step (hk3.more R) hc3); have HD3 := Lib.hid hd3; clear hc3 hk3 hd3))
                go_meet
                exact ⟨F3, d3, rfl, HD3, Lib.hid (RN4.out.more (by have := HN.out; omega))⟩
            case rest =>
            obtain ⟨F3, d3, rfl, HD3, RN3⟩ := hcut
            clear RN2 B15 HDB c3
            go_wp2_with fail
            refine (RN3.out.cx.dsk.reopen HD3.out rfl).mono ?_
            rintro e w5 ⟨D4, F4, rfl, hd4, -, -, o4⟩
            have HG : Hid (Gone 3 count base' d3.lasts P2 av) := Lib.hid (by
              rcases RN3.out.cx.st with ⟨h1, _⟩ | ⟨_, h1⟩
              · rw [HD3.out] at h1; cases h1
              · exact h1)
            have H4 := Lib.hid hd4
            have RN4 := Lib.hid (RN3.out.only o4)
            clear hd4 o4 RN3
            go_wp2_with fail
            refine (open_again H4.out RN4.out.cx.dl HG.out HC.out.2 HB9.out.2).mono ?_
            rintro e w6 ⟨R6, va, vc, now, t, rfl, hat, hnow, hH, o6⟩
            have HAT := Lib.hid (And.intro hat hnow)
            have HH6 := Lib.hid hH
            have RN6 := Lib.hid (RN4.out.only o6)
            clear hat hnow hH o6 RN4 H4
            go_wp2_with fail
            refine (begins_any HH6.out.tells RN6.out.ls.tells (by rw [RN6.out.esure, HAT.out.2]; exact (grp_take P2 HAT.out.1).1)).mono ?_
            rintro e w7 ⟨rfl, q7, hq7⟩
            have o7 : Only None' w6 w7 := by rw [hq7]; exact (Only.refl _ _).drewN q7
            have HH7 := Lib.hid (HH6.out.only o7)
            have RN7 := Lib.hid (RN6.out.only o7)
            clear o7 hq7 HH6 RN6
            go_wp2_with fail
            refine (begins_any RN7.out.ls.al.tells HH7.out.tells (by rw [RN7.out.eall, HAT.out.2]; exact (grp_take P2 HAT.out.1).2)).mono ?_
            rintro e w8' ⟨rfl, q8, hq8⟩
            have o8 : Only None' w7 w8' := by rw [hq8]; exact (Only.refl _ _).drewN q8
            have HH8 := Lib.hid (HH7.out.only o8)
            clear o8 hq8 HH7 RN7
            go_wp2_with fail
            go_roundw
            case rel => exact ⟨k + 1, D4, F4, base', d3.reopened, va, vc, now, HK.out, rfl, rfl, rfl, next_int (by have := H6.out; have := HK.out; omega), Lib.hid ⟨HH8.out, HB9.out.1⟩⟩
            case measure => exact meas HK.out (by have := H6.out; omega)
    · obtain rfl : k = n := by omega
      clear hk hlt
      go_wp2_with fail
      go_ret
      exact ⟨rfl, HL.out.1.dsk.only.below (Nat.le_refl _) fun _ e => e.elim⟩
theorem crashes_walk (x : Int) (a : Option Addr) (n c : Nat) (ss : List Rnd) (w : World) (rd : Rnds w a n ss) : Calls Try.prog 11 #[.int .i64 x, .slice a n c] w fun e w' => e = .returned (.bool true) ∧ Below w.heap.size w w' := by
  by_cases h : 6 < n
  · exact crashes_long x a n c w h
  · exact crashes_main x a n c ss w rd (by omega)
end Go.Proofs.Yteoeaojebklfjaa
