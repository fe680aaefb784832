/- CacheNames (3): the walk. (Printed by tp.py.) -/
import Derived.Test.YtfmpidacklhmaaaBD
namespace Go.Proofs.Ytfmpidacklhmaaa
open Go.RowKit Go.Maps
set_option linter.unusedVariables false
set_option linter.unusedSimpArgs false
set_option maxRecDepth 20000

def pW : Wt := ⟨1048578, kB, 201, 9, 0, 0, false⟩
def gW : Wt := ⟨1048579, kB, 201, 6, 5, 5, false⟩
def wM : Mg := { kind := 10, req := 9, client := 201, id := 9, op := 2, key := kB, val := wB }
def c2 : Cl := ⟨1, 2, [pW]⟩
def c3 : Cl := ⟨1, 3, [pW, gW]⟩
theorem askedW : c11.asked kB 201 9 0 = c2 := by kernel_rfl
theorem askedG : c2.asked kB 201 6 5 = c3 := by kernel_rfl
theorem next2 : c2.next = 1048579 := by kernel_rfl
theorem mark3 : c3.mark kB = ⟨1, 3, [pW.mark, gW.mark]⟩ := by kernel_rfl
theorem find3 : (⟨1, 3, [pW.mark, gW.mark]⟩ : Cl).find 1048579 = some gW.mark := by kernel_rfl
theorem old_p {i : Int} (h0 : 0 ≤ i) (h1 : i < 5) : c2.old (i + 1) 20 = c2 := by
  have : agoB pW.first (i + 1) 20 = false := by
    show agoB zW.first (i + 1) 20 = false
    rw [ago_i (by omega) (by omega), decide_eq_false (by omega)]
  simp only [Cl.old, Cl.with_, c2, List.filter_cons, List.filter_nil, this]
  rfl
/-- behind i ticks -/
structure Ni (w wz : World) (b : Bk) (i : Int) (xn : Nat) : Prop where
  s : ∃ s, Fl w wz b s ∧ Sd s i (lI xn i) c2 5 none
theorem Ni.on {w wz wy : World} {b : Bk} {i : Int} {xn : Nat} (h : Ni w wz b i xn) (o : Only None' wz wy) : Ni w wy b i xn := by
  obtain ⟨s, h1, h2⟩ := h.s
  exact ⟨s, h1.on o, h2⟩
theorem tick_n {w wz : World} {b : Bk} {i : Int} {xn : Nat} (h : Ni w wz b i xn) (h0 : 0 ≤ i) (h1 : i < 5) :
    Calls Try.prog 10 #[.pointer (some ⟨b.C, 0, none⟩)] wz fun e w' => e = .returned (.slice none 0 0) ∧ Ni w w' b (i + 1) xn := by
  obtain ⟨s, hfl, hsd⟩ := h.s
  refine (st_tick hfl.at_ hsd h0 (by omega) (fun r hr => by cases hr)).mono ?_
  rintro e w' ⟨rfl, s', hd, hs'⟩
  rw [live_i, old_p h0 h1] at hs'
  exact ⟨rfl, s', hfl.to hd, hs'⟩
theorem len_n {w wz : World} {b : Bk} {i : Int} {xn : Nat} (h : Ni w wz b i xn) (h1 : i < 5) : Calls Try.prog 11 #[.pointer (some ⟨b.C, 0, none⟩)] wz fun e w' => ∃ a cap, e = .returned (.slice a 1 cap) ∧ Only None' wz w' := by
  obtain ⟨s, hfl, hsd⟩ := h.s
  exact entries_len hfl.at_ hsd 1 (by unfold lI; rw [if_pos h1]; rfl)
set_option maxHeartbeats 1000000 in
theorem names_inner (w : World) : Calls Try.prog 3 #[] w fun e w' => e = .returned (.bool true) ∧ Only None' w w' := by
  go_enter Try.func3, Try.ntmps3
  go_wp2_with fail
  refine (works_any w).mono ?_
  rintro e w1 ⟨rfl, o1⟩
  have O1 := Lib.hid o1
  clear o1
  go_wp2_with fail
  refine (setup_any w1).mono ?_
  rintro e w2 ⟨rfl, o2⟩
  have O2 := Lib.hid (O1.out.trans o2)
  clear o2 O1
  go_wp2_with fail
  refine (cnew_low w2 100 (.inl rfl)).mono ?_
  rintro e w3 ⟨rfl, o3⟩
  have O3 := Lib.hid (O2.out.trans o3)
  clear o3 O2
  go_wp2_with fail
  refine (setup_any w3).mono ?_
  rintro e w4 ⟨rfl, o4⟩
  have O4 := Lib.hid (O3.out.trans o4)
  clear o4 O3
  go_wp2_with fail
  refine (cnew_low w4 104 (.inr rfl)).mono ?_
  rintro e w5 ⟨rfl, o5⟩
  have O5 := Lib.hid (O4.out.trans o5)
  clear o5 O4
  go_wp2_with fail
  refine (setup_any w5).mono ?_
  rintro e w6 ⟨rfl, o6⟩
  have O6 := Lib.hid (O5.out.trans o6)
  clear o6 O5
  go_wp2_with fail
  refine (cnew_life w6 0 (.inl (by omega))).mono ?_
  rintro e w7 ⟨rfl, o7⟩
  have O7 := Lib.hid (O6.out.trans o7)
  clear o7 O6
  go_wp2_with fail
  refine (setup_any w7).mono ?_
  rintro e w8 ⟨rfl, o8⟩
  have O8 := Lib.hid (O7.out.trans o8)
  clear o8 O7
  go_wp2_with fail
  refine (cnew_life w8 2048 (.inr (by omega))).mono ?_
  rintro e w9 ⟨rfl, o9⟩
  have O9 := Lib.hid (O8.out.trans o9)
  clear o9 O8
  go_wp2_with fail
  refine (cnew_none w9).mono ?_
  rintro e w10 ⟨rfl, o10⟩
  have O10 := Lib.hid (O9.out.trans o10)
  clear o10 O9
  generalize w10 = wa at O10 ⊢
  have OA := O10
  clear O10
  go_wp2_with fail
  refine (filled_any wa).mono ?_
  rintro e wb ⟨b, s, rfl, hf⟩
  obtain ⟨xn, hsd⟩ := hf.sd
  have HF : Hid (Fl wa wb b s ∧ Sd s 0 [(xn, ⟨kB, vB, 5, 7⟩)] c11 3 none) := Lib.hid ⟨hf.fl, hsd⟩
  clear hf hsd
  go_wp2_with fail
  refine (get_any _ _ wb).mono ?_
  rintro e wc ⟨rfl, oc⟩
  have HF2 := Lib.hid (And.intro (HF.out.1.on oc) HF.out.2)
  clear HF oc
  go_wp2_with fail
  refine (st_no HF2.out.1.at_ (getM kB 5) rfl 202 (by decide)).mono ?_
  rintro e wd ⟨v, rfl, hv, hd⟩
  obtain rfl := hv
  have HF3 := Lib.hid (And.intro (HF2.out.1.to hd) HF2.out.2)
  clear HF2 hd
  go_wp2_with fail
  refine (get_any _ _ wd).mono ?_
  rintro e we ⟨rfl, oe⟩
  have HF4 := Lib.hid (And.intro (HF3.out.1.on oe) HF3.out.2)
  clear HF3 oe
  go_wp2_with fail
  refine (hear_nil 201 (getM kB 5) we).mono ?_
  rintro e wf ⟨rfl, o⟩
  have HF5 := Lib.hid (And.intro (HF4.out.1.on o) HF4.out.2)
  clear HF4 o
  go_wp2_with fail
  refine (tick_nil wf).mono ?_
  rintro e wf' ⟨rfl, rfl⟩
  go_wp2_with fail
  refine (entries_nil wf).mono ?_
  rintro e wf' ⟨rfl, rfl⟩
  go_wp2_with fail
  refine (clock_nil wf).mono ?_
  rintro e wf' ⟨rfl, rfl⟩
  go_wp2_with fail
  refine (get_any _ _ wf).mono ?_
  rintro e wg ⟨rfl, og⟩
  have HF6 := Lib.hid (And.intro (HF5.out.1.on og) HF5.out.2)
  clear HF5 og
  go_upto_region 13 with (refine wpList_store_row rfl 44 (.tmp 13) (.tmp 97) rfl _ (getM kB 9).row.toArray rfl rfl 44 _ (heap_alloc_new _ _) (by kernel_rfl) (by kernel_rfl) (Mg.row_one _) ?_)
  generalize hX : wg.heap.size = X
  generalize hwh : World.setRow _ _ _ = wh
  have HR : Hid (wh.heap[X]? = some (.cells (getM kB 9).row.toArray 44 (0, 0))) := Lib.hid (by rw [← hwh, ← hX]; exact setRow_heap _ _ _ _ _ _ (heap_alloc_new _ _))
  have HF7 : Hid (Fl wa wh b s ∧ Sd s 0 [(xn, ⟨kB, vB, 5, 7⟩)] c11 3 none ∧ ¬ b.own s.l X ∧ wa.heap.size ≤ X) := Lib.hid ⟨HF6.out.1.on (wy := wh) (by rw [← hwh, ← hX]; exact ((Only.refl None' wg).alloc _).setRow (Nat.le_refl _) _), HF6.out.2, by rw [← hX]; exact HF6.out.1.at_.not_own (Nat.le_refl _), by rw [← hX]; exact HF6.out.1.only.size⟩
  clear hwh hX HF6
  have hc := cells_of_row HR.out
  have k7 : wh.cell? ⟨X, 7, none⟩ = some (.int .u8 1) := hc.is 7 _ rfl
  have k8 : wh.cell? ⟨X, 8, none⟩ = some (.string ⟨#[107]⟩) := hc.is 8 _ rfl
  have k9 : wh.cell? ⟨X, 9, none⟩ = some (.string ⟨#[]⟩) := hc.is 9 _ rfl
  have k10 : wh.cell? ⟨X, 10, none⟩ = some (.string ⟨#[]⟩) := hc.is 10 _ rfl
  have k11 : wh.cell? ⟨X, 11, none⟩ = some (.bool false) := hc.is 11 _ rfl
  have f7 := hc.thaw
  clear hc
  go_upto_region 14 with fail
  obtain ⟨wi, hwi⟩ : ∃ wi, wi = ((((wh.setCell ⟨X, 7, none⟩ (.int .u8 2)).setCell ⟨X, 8, none⟩ (.string ⟨#[107]⟩)).setCell ⟨X, 9, none⟩ (.string ⟨#[119]⟩)).setCell ⟨X, 10, none⟩ (.string ⟨#[]⟩)).setCell ⟨X, 11, none⟩ (.bool false) := ⟨_, rfl⟩
  have HR2 : Hid (wi.heap[X]? = some (.cells wM.row.toArray 44 (0, 0))) := Lib.hid (by
    rw [hwi]
    have := heap_setCell_same _ X 11 _ 44 (.bool false) (heap_setCell_same _ X 10 _ 44 (.string ⟨#[]⟩) (heap_setCell_same _ X 9 _ 44 (.string ⟨#[119]⟩) (heap_setCell_same _ X 8 _ 44 (.string ⟨#[107]⟩) (heap_setCell_same wh X 7 _ 44 (.int .u8 2) HR.out))))
    exact this)
  have HF8 : Hid (Fl wa wi b s ∧ Sd s 0 [(xn, ⟨kB, vB, 5, 7⟩)] c11 3 none) := Lib.hid (by
    have o : Only (fun k => k = X) wh wi := by
      rw [hwi]
      exact (((((Only.refl (fun k => k = X) wh).setCell (p := ⟨X, 7, none⟩) rfl _).setCell (p := ⟨X, 8, none⟩) rfl _).setCell (p := ⟨X, 9, none⟩) rfl _).setCell (p := ⟨X, 10, none⟩) rfl _).setCell (p := ⟨X, 11, none⟩) rfl _
    exact ⟨⟨HF7.out.1.at_.only o fun k hk e => HF7.out.2.2.1 (e ▸ hk), HF7.out.1.own, HF7.out.1.only.trans2 o fun k hk e => by have := HF7.out.2.2.2; omega⟩, HF7.out.2.1⟩)
  rw [← hwi]
  clear hwi HR HF7 k7 k8 k9 k10 k11 f7
  refine p_begin ?_
  refine p_take 0 (.pointer (some ⟨b.C, 0, none⟩)) rfl (YR.pure (by rfl) fun w hw => y_move w rfl rfl) ?_
  simp only [Act.put, List.setIfInBounds_toArray, List.set_cons_zero, List.set_cons_succ]
  refine p_take 1 wM.v rfl (YR.pure (by rfl) fun w hw => y_load44 rfl rfl ((hw.block X (Array.getElem?_eq_some_iff.1 HR2.out).1 fun e => e).trans HR2.out)) ?_
  simp only [Act.put, List.setIfInBounds_toArray, List.set_cons_zero, List.set_cons_succ]
  refine p_one 2 rfl (by rfl) fun wj oj => ?_
  refine wp_enter (y_enter [.pointer (some ⟨b.C, 0, none⟩), .int .i64 201, wM.v] rfl (by rfl) (call8_ _) wj) ((st_put (HF8.out.1.on oj).at_ HF8.out.2 wM rfl rfl (by decide) (by kernel_rfl) (by decide) (by kernel_rfl) (by decide)).mono ?_)
  rintro e wk ⟨v, rfl, s2, ⟨R2, hm, hR, hN⟩, hd, hsd⟩
  rw [next11] at hm
  rw [show c11.asked wM.key 201 wM.id 0 = c2 from askedW] at hsd
  refine ⟨_, rfl, ?_⟩
  obtain ⟨rfl, hrow⟩ := hm
  have HF9 := Lib.hid (And.intro ((HF8.out.1.on oj).to hd) (And.intro hsd hrow))
  clear HF8 HR2 hR hN hd hsd hrow oj
  simp only [Act.put, List.setIfInBounds_toArray, List.set_cons_zero, List.set_cons_succ]
  refine p_take 3 (.slice (some ⟨R2, 0, none⟩) 1 1) rfl (YR.pure (by rfl) fun w hw => y_assign w rfl rfl) ?_
  simp only [Act.put, List.setIfInBounds_toArray, List.set_cons_zero, List.set_cons_succ]
  refine p_done fun wz oz => ?_
  have hc := (cells_of_row HF9.out.2.2).kept oz fun e => e
  have HN : Hid (Ni wa wz b 0 xn) := Lib.hid ⟨_, HF9.out.1.on oz, HF9.out.2.1⟩
  have k1 : wz.cell? ⟨R2, 1, none⟩ = some (.int .i64 2) := hc.is 1 _ rfl
  have k2 : wz.cell? ⟨R2, 2, none⟩ = some (.int .u8 14) := hc.is 2 _ rfl
  have k8 : wz.cell? ⟨R2, 8, none⟩ = some (.int .i64 9) := hc.is 8 _ rfl
  clear HF9 oz hc
  go_wp2_with fail
  clear k1 k2 k8
  refine (bare_any wz).mono ?_
  rintro e wl ⟨rfl, ol⟩
  have HN2 := Lib.hid (HN.out.on ol)
  clear HN ol
  go_wp2_with fail
  refine (olds_law wl).mono ?_
  rintro e wm ⟨rfl, om⟩
  have M0 : Hid (Ni wa wm b 0 xn) := Lib.hid (HN2.out.on om)
  clear HN2 om
  go_wp2_with fail
  go_loopw [15] (fun i wy => ∃ j : Nat, j ≤ 5 ∧ i = .int .i64 (j : Int) ∧ Hid (Ni wa wy b (j : Int) xn)) (fun i wy => 5 - (intOf i).toNat)
  case atStart => exact ⟨0, by omega, rfl, M0⟩
  case round =>
    obtain ⟨j, hj, rfl, HJ⟩ := hrel
    clear M0
    by_cases hlt : j < 5
    · have i0 : (0 : Int) ≤ (j : Int) := by omega
      have i1 : (j : Int) < 5 := by omega
      have HLT := Lib.hid hlt
      clear hlt hj
      go_wp2_with fail
      refine (len_n HJ.out (by omega)).mono ?_
      rintro e w3 ⟨a3, cap3, rfl, o3⟩
      have HJ3 := Lib.hid (HJ.out.on o3)
      clear o3 HJ
      go_wp2_with fail
      refine (tick_n HJ3.out (by omega) (by omega)).mono ?_
      rintro e w5 ⟨rfl, h5⟩
      have HJ5 := Lib.hid h5
      clear h5 HJ3
      go_wp2_with fail
      go_roundw
      case rel => exact ⟨j + 1, by have := HLT.out; omega, rfl, HJ5⟩
      case measure =>
        show 5 - ((j : Int) + 1).toNat < 5 - (j : Int).toNat
        have := HLT.out
        omega
    · obtain rfl : j = 5 := by omega
      clear hlt hj
      obtain ⟨s5, hfl, hsd⟩ := HJ.out.s
      have HF : Hid (Fl wa _ b s5 ∧ Sd s5 5 [] c2 5 none) := Lib.hid ⟨hfl, hsd⟩
      clear hfl hsd HJ
      go_wp2_with fail
      refine (get_any _ _ _).mono ?_
      rintro e wA ⟨rfl, oA⟩
      have HFA := Lib.hid (And.intro (HF.out.1.on oA) HF.out.2)
      clear HF oA
      go_wp2_with fail
      refine (st_miss HFA.out.1.at_ HFA.out.2 kB 6 (by decide) (by decide) rfl (by kernel_rfl) (by decide)).mono ?_
      rintro e wB' ⟨v, rfl, s6, ⟨R6, hm, hR, hN⟩, hd, hs6⟩
      rw [next2] at hm hs6
      rw [askedG] at hs6
      obtain ⟨rfl, hrow⟩ := hm
      have HFB := Lib.hid (And.intro (HFA.out.1.to hd) (And.intro hs6 (And.intro (cells_of_row hrow) hN)))
      clear HFA hR hN hd hs6 hrow
      go_wp2_with fail
      refine (entries_len HFB.out.1.at_ HFB.out.2.1 0 rfl).mono ?_
      rintro e wC ⟨a3, cap3, rfl, oC⟩
      have HFC := Lib.hid (And.intro (HFB.out.1.on oC) (And.intro HFB.out.2.1 (And.intro (HFB.out.2.2.1.kept oC fun e => e) HFB.out.2.2.2)))
      clear HFB oC
      have k1 : wC.cell? ⟨R6, 1, none⟩ = some (.int .i64 2) := HFC.out.2.2.1.is 1 _ rfl
      have k2 : wC.cell? ⟨R6, 2, none⟩ = some (.int .u8 12) := HFC.out.2.2.1.is 2 _ rfl
      go_wp2_with fail
      clear k1 k2
      refine (st_inval HFC.out.1.at_ HFC.out.2.1 kB 8 (by decide)).mono ?_
      rintro e wD ⟨v, rfl, s7, ht, hd, hs7⟩
      rw [mark3] at hs7
      have HFD : Hid (Fl wa wD b s7 ∧ Sd s7 5 [] ⟨1, 3, [pW.mark, gW.mark]⟩ 7 (some 1048579) ∧ CellsR wD R6 (mailR 2 (readM 12 1048579 6 (getM kB 6)))) := Lib.hid ⟨HFC.out.1.to hd, hs7, HFC.out.2.2.1.kept hd.kept.only HFC.out.2.2.2⟩
      clear HFC ht hd hs7
      have k6 : wD.cell? ⟨R6, 6, none⟩ = some (.int .i64 1048579) := HFD.out.2.2.is 6 _ rfl
      go_wp2_with fail
      clear k6
      refine (st_told_E HFD.out.1.at_ HFD.out.2.1 wB 1048579 (by decide) gW.mark find3 rfl rfl (by decide) rfl).mono ?_
      rintro e wE ⟨v, rfl, s8, ⟨R8, hm, hR, hN⟩, hd, hs8⟩
      obtain ⟨rfl, hrow⟩ := hm
      have HFE := Lib.hid (And.intro (HFD.out.1.to hd) hs8)
      have hc := cells_of_row hrow
      have k17 : wE.cell? ⟨R8, 17, none⟩ = some (.string ⟨#[119]⟩) := hc.is 17 _ rfl
      have k6 : wE.cell? ⟨R8, 6, none⟩ = some (.int .i64 6) := hc.is 6 _ rfl
      clear HFD hR hN hd hs8 hrow hc
      go_wp2_with fail
      clear k17 k6
      refine (entries_len HFE.out.1.at_ HFE.out.2 0 rfl).mono ?_
      rintro e wF ⟨a3, cap3, rfl, oF⟩
      have HFF := Lib.hid (HFE.out.1.only.trans oF)
      clear HFE oF
      go_wp2_with fail
      go_ret
      exact ⟨rfl, OA.out.trans HFF.out⟩
theorem names_walk (W : World) : Calls Try.prog 3 #[] W fun e W' => e = .returned (.bool true) ∧ Below W.heap.size W W' :=
  (names_inner W).mono fun e W' h => ⟨h.1, h.2.below (Nat.le_refl _) fun k hk => hk.elim⟩
end Go.Proofs.Ytfmpidacklhmaaa
