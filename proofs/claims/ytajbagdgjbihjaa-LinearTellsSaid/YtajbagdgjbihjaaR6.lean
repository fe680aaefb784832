/- LinearPlayed (5): the walk. -/
import Derived.Test.YtajbagdgjbihjaaR5
namespace Go.Proofs.Ytajbagdgjbihjaa
open Go.RowKit Go.Maps
set_option linter.unusedVariables false

/-- events that Check may be handed -/
def EvsOk (h : List Ev) : Prop := h.length ≤ 1000 ∧ ∀ e ∈ h, Wf e.client ∧ Wf e.id ∧ e.key.size ≤ maxLen
theorem wf_nat {k : Nat} (h : k ≤ 1000000) : Wf (k : Int) := by
  unfold Wf
  have h1 : IntKind.min .i64 = -9223372036854775808 := by decide
  have h2 : IntKind.max .i64 = 9223372036854775807 := by decide
  simp only [Lit.wf, h1, h2, Bool.and_eq_true, decide_eq_true_eq]
  omega
theorem PA.ok {l : List Pl} {t : Nat} {h : List Ev} {m : ByteArray → Option ByteArray} {rs : Nat → Rs} (g : PA (pns l) t 0 0 0 h m rs) (hn : l.length ≤ 14) (hk : ∀ p ∈ l, p.op.key.size ≤ maxLen) : EvsOk h := by
  have hl := (g.check (by rw [pns_len]; exact hn)).1
  refine ⟨by omega, fun e he => ?_⟩
  obtain ⟨j, q, hq, h1, h2, h3⟩ := g.good e he
  obtain ⟨p, hp, rfl⟩ := pns_get hq
  have hj := (List.getElem?_eq_some_iff.1 hp).1
  have hu := um_lt p.client (k := 3) (by decide)
  refine ⟨?_, ?_, ?_⟩
  · rw [h1]
    exact wf_nat (k := um p.client 3) (by omega)
  · rw [h2]
    exact wf_nat (by omega)
  · rcases h3 with h3 | h3
    · rw [h3]
      exact hk p (List.mem_of_getElem? hp)
    · rw [h3]
      exact Nat.zero_le _
theorem EvsOk.less {h : List Ev} (g : EvsOk h) (k : Int) : EvsOk (lessOf k h) := ⟨Nat.le_trans (List.length_filter_le _ _) g.1, fun e he => g.2 e (List.mem_filter.1 he).1⟩
theorem EvsOk.veil {h : List Ev} (g : EvsOk h) (k : Int) : EvsOk (h.map (Ev.veil k)) := by
  refine ⟨by rw [List.length_map]; exact g.1, fun e he => ?_⟩
  obtain ⟨x, hx, rfl⟩ := List.mem_map.1 he
  have := g.2 x hx
  unfold Ev.veil
  split <;> exact this
/-- the history, and two of what was told less -/
structure QL (w wr : World) (vh vl vu : Value) (h hl hu : List Ev) : Prop where
  only : Only None' w wr
  hist : ER wr vh h
  less : Vec wr 12 vl hl.length (hl.flatMap Ev.row)
  unk : Vec wr 12 vu hu.length (hu.flatMap Ev.row)
  lnew : ∀ g, vl.ownBlock = some g → w.heap.size ≤ g ∧ vh.ownBlock ≠ some g ∧ vu.ownBlock ≠ some g
  unew : ∀ g, vu.ownBlock = some g → w.heap.size ≤ g ∧ vh.ownBlock ≠ some g
section
variable {w wr w1 : World} {vh vl vu v' : Value} {h hl hu h2 : List Ev}
theorem QL.new_ (q : QL w wr vh vl vu h hl hu) (o : Only None' wr w1) : QL w w1 vh vl vu h hl hu :=
  ⟨q.only.trans o, q.hist.only o fun _ _ e => e, q.less.only o fun _ _ e => e, q.unk.only o fun _ _ e => e, q.lnew, q.unew⟩
theorem ER.own_lt' {v : Value} {l : List Ev} {g : Nat} (h : ER wr v l) (hg : v.ownBlock = some g) : g < wr.heap.size := by
  rcases h.form with ⟨rfl, _⟩ | ⟨g', off, cap, rfl, _, _, h3, _⟩
  · cases hg
  · injection hg with hg
    exact hg ▸ h3
theorem QL.appU (q : QL w wr vh vl vu h hl hu) (h3 : Vec w1 12 v' (hu ++ h2).length ((hu ++ h2).flatMap Ev.row)) (hg : wr.grownBy w1 vu.ownBlock) (hf : ∀ k, v'.ownBlock = some k → vu.ownBlock = some k ∨ wr.heap.size ≤ k) : QL w w1 vh vl v' h hl (hu ++ h2) := by
  have o : Only (fun g => vu.ownBlock = some g) wr w1 := (Only.refl _ wr).grown hg fun k hk => hk
  refine ⟨q.only.trans2 o fun g hg e => absurd hg (by have := (q.unew g e).1; omega), q.hist.only o fun g hg e => (q.unew g e).2 hg, q.less.only o fun g hg e => (q.lnew g hg).2.2 e, h3, fun g hg' => ⟨(q.lnew g hg').1, (q.lnew g hg').2.1, fun e => ?_⟩, fun g hg' => ?_⟩
  · rcases hf g e with e | e
    · exact (q.lnew g hg').2.2 e
    · have := q.less.lt hg'; omega
  · rcases hf g hg' with e | e
    · exact q.unew g e
    · exact ⟨Nat.le_trans q.only.size e, fun e' => by have := q.hist.own_lt' e'; omega⟩
theorem QL.appL (q : QL w wr vh vl vu h hl hu) (h3 : Vec w1 12 v' (hl ++ h2).length ((hl ++ h2).flatMap Ev.row)) (hg : wr.grownBy w1 vl.ownBlock) (hf : ∀ k, v'.ownBlock = some k → vl.ownBlock = some k ∨ wr.heap.size ≤ k) : QL w w1 vh v' vu h (hl ++ h2) hu := by
  have o : Only (fun g => vl.ownBlock = some g) wr w1 := (Only.refl _ wr).grown hg fun k hk => hk
  refine ⟨q.only.trans2 o fun g hg e => absurd hg (by have := (q.lnew g e).1; omega), q.hist.only o fun g hg e => (q.lnew g e).2.1 hg, h3, q.unk.only o fun g hg e => (q.lnew g e).2.2 hg, fun g hg' => ?_, q.unew⟩
  rcases hf g hg' with e | e
  · exact q.lnew g e
  · exact ⟨Nat.le_trans q.only.size e, fun e' => by have := q.hist.own_lt' e'; omega, fun e' => by have := q.unk.lt e'; omega⟩
end
theorem ev_take {h : List Ev} {j : Nat} {e : Ev} (he : h[j]? = some e) : h.take (j + 1) = h.take j ++ [e] := by rw [List.take_add_one, he]; rfl
theorem less_next {h : List Ev} {j : Nat} {e : Ev} (k : Int) (he : h[j]? = some e) : lessOf k (h.take (j + 1)) = lessOf k (h.take j) ++ if e.back = true ∧ e.id = k then [] else [e] := by
  unfold lessOf
  rw [ev_take he, List.filter_append]
  congr 1
  by_cases hc : e.back = true ∧ e.id = k
  · rw [if_pos hc, List.filter_cons_of_neg]
    · rfl
    · rw [hc.1, decide_eq_true hc.2]; decide
  · rw [if_neg hc, List.filter_cons_of_pos]
    · rfl
    · cases hb : e.back with
      | false => rfl
      | true =>
        rw [decide_eq_false fun h => hc ⟨hb, h⟩]; rfl
theorem veil_next {h : List Ev} {j : Nat} {e : Ev} (k : Int) (he : h[j]? = some e) : (h.take (j + 1)).map (Ev.veil k) = (h.take j).map (Ev.veil k) ++ [e.veil k] := by
  rw [ev_take he, List.map_append]; rfl
theorem less_le (k : Int) (h : List Ev) (j : Nat) : (lessOf k (h.take j)).length ≤ h.length := Nat.le_trans (List.length_filter_le _ _) (by rw [List.length_take]; omega)
theorem veil_le (k : Int) (h : List Ev) (j : Nat) : ((h.take j).map (Ev.veil k)).length ≤ h.length := by rw [List.length_map, List.length_take]; omega
set_option maxRecDepth 20000 in
set_option maxHeartbeats 4000000 in
theorem plays_walk (a : Option Addr) (len c : Nat) (hd : Int) (l : List Pl) (w : World) (h0 : PLR w (.slice a len c) l) (hw : ∀ p ∈ l, (Wf p.client ∧ Wf p.call ∧ Wf p.do_ ∧ Wf p.back) ∧ p.op.key.size ≤ maxLen) : Calls Try.prog 5 #[.slice a len c, .int .i64 hd] w fun e w' => e = .returned (.bool true) ∧ Below w.heap.size w w' := by
  obtain rfl : len = l.length := by
    rcases h0.form with ⟨e, rfl⟩ | ⟨g, off, cap, e, _⟩
    · cases e; rfl
    · cases e; rfl
  have H := Lib.hid h0
  have HW := Lib.hid hw
  obtain ⟨n, hn⟩ : ∃ n, n = l.length := ⟨_, rfl⟩
  have HN := Lib.hid hn
  rw [← hn] at H ⊢
  clear h0 hw hn
  by_cases hbig : 14 < n
  · have d1 : decide ((14 : Int) < (n : Int)) = true := by rw [decide_eq_true_eq]; omega
    have d2 : decide (14 < n) = true := by rw [decide_eq_true_eq]; omega
    have i1 : (14 : Int) < (n : Int) := by omega
    go_enter Try.func5, Try.ntmps5
    go_wp2_with fail
    refine (works_any _).mono ?_
    rintro e w1 ⟨rfl, o1⟩
    go_wp2_with fail
    refine (works_any _).mono ?_
    rintro e w2 ⟨rfl, o2⟩
    go_wp2_with fail
    go_ret
    exact ⟨rfl, (o1.trans o2).below (Nat.le_refl _) fun k e => e.elim⟩
  have d1 : decide ((14 : Int) < (n : Int)) = false := by rw [decide_eq_false_iff_not]; omega
  have d2 : decide (14 < n) = false := by rw [decide_eq_false_iff_not]; omega
  have HB : Hid (n ≤ 14) := Lib.hid (by omega)
  have HL : Hid (l.length ≤ 14) := Lib.hid (by rw [← HN.out]; exact HB.out)
  clear hbig
  go_enter Try.func5, Try.ntmps5
  go_wp2_with fail
  refine (works_any _).mono ?_
  rintro e w1 ⟨rfl, o1⟩
  have O1 := Lib.hid o1
  clear o1
  go_wp2_with fail
  refine (played_any (l := l) (by have := H.out.only O1.out fun _ _ e => e; exact this) HL.out).mono ?_
  rintro e w2 ⟨vh, h, m, rs, t, rfl, hv2, hn2, o2, g2⟩
  have HG := Lib.hid g2
  have HO2 := Lib.hid (O1.out.trans o2)
  have HCK := Lib.hid (g2.check (by rw [pns_len]; exact HL.out))
  have HOK := Lib.hid (g2.ok HL.out fun p hp => (HW.out p hp).2)
  obtain ⟨ha, hc, rfl, _, _⟩ := hv2.shape
  obtain ⟨q, hq⟩ : ∃ q, q = h.length := ⟨_, rfl⟩
  have HQN := Lib.hid hq
  have HER := Lib.hid (er_vec hv2)
  rw [← hq] at HER ⊢
  clear hv2 hn2 o2 g2 hq O1
  go_wp2_with fail
  have hck := check_any HER.out HOK.out.1 HOK.out.2
  rw [HCK.out.2.1] at hck
  refine hck.mono ?_
  rintro e w3 ⟨rfl, o3⟩
  have O3 := Lib.hid o3
  have HER3 := Lib.hid (HER.out.only o3 fun _ _ e => e)
  clear hck o3
  go_upto_region 8 with fail
  go_cut [10] from 37 to 40 (fun u10 wx => u10 = .int .i64 ((um hd 15 : Nat) : Int) ∧ Hid (Only None' w3 wx))
  case first =>
    refine p_begin ?_
    have HS : Hid (Only None' w3 w3) := Lib.hid (Only.refl _ _)
    have HN : Hid (Only None' w3 w3) := Lib.hid (Only.refl _ _)
    refine p_take 0 (.int .i64 hd) rfl (YR.pure (by rfl) fun w hw => y_move w rfl rfl) ?_
    simp only [Act.put, List.setIfInBounds_toArray, List.set_cons_zero, List.set_cons_succ]
    refine p_take 1 (.int .u64 (((hd % 18446744073709551616).toNat : Nat) : Int)) rfl (YR.pure (by rfl) fun w hw => y_conv_u w rfl rfl rfl) ?_
    simp only [Act.put, List.setIfInBounds_toArray, List.set_cons_zero, List.set_cons_succ]
    refine p_take 2 (.int .u64 ((um hd 15 : Nat) : Int)) rfl (YR.pure (by rfl) fun w hw => y_rem (m := (hd % 18446744073709551616).toNat) (k := 15) w rfl rfl rfl (by decide) (by omega)) ?_
    simp only [Act.put, List.setIfInBounds_toArray, List.set_cons_zero, List.set_cons_succ]
    refine p_take 3 (.int .i64 ((um hd 15 : Nat) : Int)) rfl (YR.pure (by rfl) fun w hw => y_conv_i w rfl rfl (by have := um_lt hd (k := 15) (by decide); omega)) ?_
    simp only [Act.put, List.setIfInBounds_toArray, List.set_cons_zero, List.set_cons_succ]
    refine p_take 4 (.int .i64 ((um hd 15 : Nat) : Int)) rfl (YR.pure (by rfl) fun w hw => y_assign w rfl rfl) ?_
    simp only [Act.put, List.setIfInBounds_toArray, List.set_cons_zero, List.set_cons_succ]
    refine p_done fun wz oz => ?_
    have HZ := Lib.hid (HN.out.trans oz)
    clear HS oz
    go_wp2_with fail
    go_meet
    exact ⟨rfl, HZ⟩
  case rest =>
    obtain ⟨rfl, HX⟩ := hcut
    rename World => w4
    obtain ⟨kk, hkk⟩ : ∃ kk, kk = ((um hd 15 : Nat) : Int) := ⟨_, rfl⟩
    rw [← hkk]
    clear hkk
    have HQ0 : Hid (QL w2 w4 (.slice ha q hc) (.slice none 0 0) (.slice none 0 0) h [] []) := Lib.hid ⟨O3.out.trans HX.out, HER3.out.only HX.out fun _ _ e => e, Vec.nil _ _, Vec.nil _ _, (fun g hg => by cases hg), (fun g hg => by cases hg)⟩
    clear HER HER3
    go_wp2_with fail
    go_loopw [8, 9, 11] (fun u8 u9 u11 wr => ∃ j : Nat, j ≤ q ∧ u11 = .int .i64 (j : Int) ∧ Hid (QL w2 wr (.slice ha q hc) u8 u9 h (lessOf kk (h.take j)) ((h.take j).map (Ev.veil kk)))) (fun u8 u9 u11 wr => q - (intOf u11).toNat)
    case atStart => exact ⟨0, by omega, rfl, HQ0⟩
    case round =>
      clear HQ0
      rename World => wr
      obtain ⟨j, hj, rfl, HJ⟩ := hrel
      by_cases hlt : j < q
      · have hjl : j < h.length := by have := HQN.out; omega
        obtain ⟨g, off, cp, e, hg, hcell⟩ := HJ.out.hist.at_ hjl
        injection e with e e2 e3
        subst e
        clear e2 e3
        obtain ⟨x, hx⟩ : ∃ x, x = h[j] := ⟨_, rfl⟩
        rw [← hx] at hcell
        have HXX : Hid (h[j]? = some x) := Lib.hid (by rw [hx]; exact List.getElem?_eq_getElem hjl)
        clear hx
        obtain ⟨z1, z2, z3, z4, z5, z6, z7, z8, z9, za, zb, zc⟩ := x
        have y0 := hcell 0 _ rfl
        have y1 := hcell 1 _ rfl
        have y2 := hcell 2 _ rfl
        have y3 := hcell 3 _ rfl
        have y4 := hcell 4 _ rfl
        have y5 := hcell 5 _ rfl
        have y6 := hcell 6 _ rfl
        have y7 := hcell 7 _ rfl
        have y8 := hcell 8 _ rfl
        have y9 := hcell 9 _ rfl
        have ya := hcell 10 _ rfl
        have yb := hcell 11 _ rfl
        rw [Nat.add_zero] at y0
        simp only at y0 y1 y2 y3 y4 y5 y6 y7 y8 y9 ya yb
        have i0 : (0 : Int) ≤ (j : Int) := by omega
        have i1 : (j : Int) < (q : Int) := by omega
        have HLT := Lib.hid hlt
        have HQ150 : Hid (q ≤ 28) := Lib.hid (by rw [HQN.out]; exact HCK.out.1)
        clear hlt hj hjl hcell hg
        go_upto_region 13 with fail
        generalize hX : wr.heap.size = X
        generalize hw7 : wr.alloc (.cells #[.int .i64 z1, .int .i64 z2, .int .i64 z3, .bool z4, .int .u8 z5, .string z6, .string z7, .string z8, .bool z9, .int .u8 za, .bool zb, .string zc] 31) = w7
        have o7 : Only None' wr w7 := by rw [← hw7]; exact (Only.refl None' wr).alloc _
        have c7 : CellsR w7 X [.int .i64 z1, .int .i64 z2, .int .i64 z3, .bool z4, .int .u8 z5, .string z6, .string z7, .string z8, .bool z9, .int .u8 za, .bool zb, .string zc] := by rw [← hw7, ← hX]; exact cells_new wr _ 31
        have HX7 : Hid (X = wr.heap.size) := Lib.hid hX.symm
        have H7 := Lib.hid (HJ.out.new_ o7)
        have C7 := Lib.hid c7
        have x3 := c7.is 3 _ rfl
        have x1 := c7.is 1 _ rfl
        have x9 := c7.is 9 _ rfl
        have x10 := c7.is 10 _ rfl
        have x11 := c7.is 11 _ rfl
        have f9 := c7.thaw 9
        have f10 := c7.thaw 10
        have f11 := c7.thaw 11
        clear c7 o7 hX hw7 y0 y1 y2 y3 y4 y5 y6 y7 y8 y9 ya yb
        by_cases hm : z4 = true ∧ z2 = kk
        · obtain ⟨rfl, rfl⟩ := hm
          go_upto_region 15 with fail
          generalize hw8 : ((w7.setCell ⟨X, 9, none⟩ (.int .u8 2)).setCell ⟨X, 10, none⟩ (.bool false)).setCell ⟨X, 11, none⟩ (.string ⟨#[]⟩) = w8
          have C8 : Hid (CellsR w8 X (Ev.veil z2 ⟨z1, z2, z3, true, z5, z6, z7, z8, z9, za, zb, zc⟩).row) := Lib.hid (by
            have h9 := (((C7.out.set (i := 9) (by simp) (.int .u8 2)).set (i := 10) (by simp) (.bool false)).set (i := 11) (by simp) (.string ⟨#[]⟩))
            rw [hw8] at h9
            unfold Ev.veil
            rw [if_pos ⟨rfl, rfl⟩]
            exact h9)
          have H8 : Hid (QL w2 w8 (.slice (some ⟨g, off, none⟩) q hc) u8 u9 h (lessOf z2 (h.take j)) ((h.take j).map (Ev.veil z2))) := Lib.hid (by
            have o8 : Only (fun p => p = X) w7 w8 := by rw [← hw8]; exact (((Only.refl (fun p => p = X) w7).setCell (p := ⟨X, 9, none⟩) rfl _).setCell (p := ⟨X, 10, none⟩) rfl _).setCell (p := ⟨X, 11, none⟩) rfl _
            have hx := HX7.out
            have h6 := HJ.out.only.size
            have h7 := H7.out
            refine ⟨h7.only.fresh (by omega) o8, h7.hist.only o8 fun p hp e => ?_, h7.less.only o8 fun p hp e => ?_, h7.unk.only o8 fun p hp e => ?_, h7.lnew, h7.unew⟩
            · have := HJ.out.hist.own_lt' hp; omega
            · have := HJ.out.less.lt hp; omega
            · have := HJ.out.unk.lt hp; omega)
          have HE8 : Hid (h[j]? = some ⟨z1, z2, z3, true, z5, z6, z7, z8, z9, za, zb, zc⟩) := Lib.hid HXX.out
          clear hw8 x3 x1 x9 x10 x11 f9 f10 f11
          refine p_begin ?_
          have HS : Hid (Only None' w8 w8) := Lib.hid (Only.refl _ _)
          have HN : Hid (Only None' w8 w8) := Lib.hid (Only.refl _ _)
          refine p_take 0 (u9) rfl (YR.pure (by rfl) fun w hw => y_move w rfl rfl) ?_
          simp only [Act.put, List.setIfInBounds_toArray, List.set_cons_zero, List.set_cons_succ]
          refine p_take 1 ((Ev.veil z2 ⟨z1, z2, z3, true, z5, z6, z7, z8, z9, za, zb, zc⟩).vv) rfl (YR.pure (by rfl) fun w hw => y_load31 (e := Ev.veil z2 ⟨z1, z2, z3, true, z5, z6, z7, z8, z9, za, zb, zc⟩) rfl rfl (C8.out.kept hw fun e => e)) ?_
          simp only [Act.put, List.setIfInBounds_toArray, List.set_cons_zero, List.set_cons_succ]
          refine p_one 2 rfl (by rfl) fun wi oi => ?_
          refine wp_events [Ev.veil z2 ⟨z1, z2, z3, true, z5, z6, z7, z8, z9, za, zb, zc⟩] _ 1 rfl rfl (by simp) (by simp) (by rfl) fun vs wj he _ oj => ?_
          have HT2 := Lib.hid (HN.out.trans (oi.trans oj))
          simp only [Act.put, List.setIfInBounds_toArray, List.set_cons_zero, List.set_cons_succ]
          clear HN HS
          have HN := HT2
          have HE := Lib.hid he
          clear he oi oj HT2
          refine p_one 3 rfl (by rfl) fun wi oi => ?_
          refine wp_append_ev (l := ((h.take j).map (Ev.veil z2))) (l2 := [Ev.veil z2 ⟨z1, z2, z3, true, z5, z6, z7, z8, z9, za, zb, zc⟩]) rfl rfl rfl (H8.out.new_ (HN.out.trans oi)).unk (HE.out.only oi fun _ _ e => e) (by have h1 := veil_le z2 h j; have h2 := HQ150.out; have h3 := HQN.out; show _ + 1 ≤ _; omega) fun v5 w5 hv5 hg5 hf5 => ?_
          have HJ5 := Lib.hid ((H8.out.new_ (HN.out.trans oi)).appU hv5 hg5 hf5)
          have HO5 := Lib.hid (((HN.out.trans oi).mono (S' := fun p => (u9).ownBlock = some p) fun _ _ e => e.elim).grown hg5 fun k hk => hk)
          simp only [Act.put, List.setIfInBounds_toArray, List.set_cons_zero, List.set_cons_succ]
          clear hv5 hg5 hf5 oi
          refine p_take 4 (v5) rfl (YR.pure (by rfl) fun w hw => y_assign w rfl rfl) ?_
          simp only [Act.put, List.setIfInBounds_toArray, List.set_cons_zero, List.set_cons_succ]
          refine p_done fun wz oz => ?_
          have HJ6 := Lib.hid (HJ5.out.new_ oz)
          clear HN oz HJ5
          go_wp2_with fail
          go_roundw
          case rel =>
            refine ⟨j + 1, by have := HLT.out; omega, next_int (by have := HQ150.out; have := HLT.out; omega), ?_⟩
            rw [less_next z2 HE8.out, veil_next z2 HE8.out, if_pos ⟨rfl, rfl⟩, List.append_nil]
            exact HJ6
          case measure => exact meas HLT.out (by have := HQ150.out; omega)
        · have hveil : Ev.veil kk ⟨z1, z2, z3, z4, z5, z6, z7, z8, z9, za, zb, zc⟩ = ⟨z1, z2, z3, z4, z5, z6, z7, z8, z9, za, zb, zc⟩ := by unfold Ev.veil; exact if_neg hm
          have HV := Lib.hid hveil
          have HM := Lib.hid hm
          have hz : z4 = false ∨ (z4 = true ∧ (z2 == kk) = false) := by
            cases z4 with
            | false => exact .inl rfl
            | true => exact .inr ⟨rfl, by rw [beq_eq_false_iff_ne]; exact fun e => hm ⟨rfl, e⟩⟩
          clear hveil hm x9 x10 x11 f9 f10 f11
          rcases hz with rfl | ⟨rfl, hz⟩
          · have hz4 : True := trivial
            clear hz4
            go_upto_region 16 with fail
            go_cut [9] from 65 to 68 (fun u9 wx => Hid (QL w2 wx (.slice (some ⟨g, off, none⟩) q hc) u8 u9 h (lessOf kk (h.take j)) ((h.take j).map (Ev.veil kk) ++ [(⟨z1, z2, z3, false, z5, z6, z7, z8, z9, za, zb, zc⟩ : Ev)])) ∧ Hid (CellsR wx X (⟨z1, z2, z3, false, z5, z6, z7, z8, z9, za, zb, zc⟩ : Ev).row))
            case first =>
              refine p_begin ?_
              have HS : Hid (Only None' w7 w7) := Lib.hid (Only.refl _ _)
              have HN : Hid (Only None' w7 w7) := Lib.hid (Only.refl _ _)
              refine p_take 0 (u9) rfl (YR.pure (by rfl) fun w hw => y_move w rfl rfl) ?_
              simp only [Act.put, List.setIfInBounds_toArray, List.set_cons_zero, List.set_cons_succ]
              refine p_take 1 (((⟨z1, z2, z3, false, z5, z6, z7, z8, z9, za, zb, zc⟩ : Ev)).vv) rfl (YR.pure (by rfl) fun w hw => y_load31 (e := (⟨z1, z2, z3, false, z5, z6, z7, z8, z9, za, zb, zc⟩ : Ev)) rfl rfl (C7.out.kept hw fun e => e)) ?_
              simp only [Act.put, List.setIfInBounds_toArray, List.set_cons_zero, List.set_cons_succ]
              refine p_one 2 rfl (by rfl) fun wi oi => ?_
              refine wp_events [(⟨z1, z2, z3, false, z5, z6, z7, z8, z9, za, zb, zc⟩ : Ev)] _ 1 rfl rfl (by simp) (by simp) (by rfl) fun vs wj he _ oj => ?_
              have HT2 := Lib.hid (HN.out.trans (oi.trans oj))
              simp only [Act.put, List.setIfInBounds_toArray, List.set_cons_zero, List.set_cons_succ]
              clear HN HS
              have HN := HT2
              have HE := Lib.hid he
              clear he oi oj HT2
              refine p_one 3 rfl (by rfl) fun wi oi => ?_
              refine wp_append_ev (l := ((h.take j).map (Ev.veil kk))) (l2 := [(⟨z1, z2, z3, false, z5, z6, z7, z8, z9, za, zb, zc⟩ : Ev)]) rfl rfl rfl (H7.out.new_ (HN.out.trans oi)).unk (HE.out.only oi fun _ _ e => e) (by have h1 := veil_le kk h j; have h2 := HQ150.out; have h3 := HQN.out; show _ + 1 ≤ _; omega) fun v5 w5 hv5 hg5 hf5 => ?_
              have HJ5 := Lib.hid ((H7.out.new_ (HN.out.trans oi)).appU hv5 hg5 hf5)
              have HO5 := Lib.hid (((HN.out.trans oi).mono (S' := fun p => (u9).ownBlock = some p) fun _ _ e => e.elim).grown hg5 fun k hk => hk)
              simp only [Act.put, List.setIfInBounds_toArray, List.set_cons_zero, List.set_cons_succ]
              clear hv5 hg5 hf5 oi
              refine p_take 4 (v5) rfl (YR.pure (by rfl) fun w hw => y_assign w rfl rfl) ?_
              simp only [Act.put, List.setIfInBounds_toArray, List.set_cons_zero, List.set_cons_succ]
              refine p_done fun wz oz => ?_
              have HJ6 := Lib.hid (HJ5.out.new_ oz)
              have HO6 : Hid (CellsR wz X (⟨z1, z2, z3, false, z5, z6, z7, z8, z9, za, zb, zc⟩ : Ev).row) := Lib.hid (C7.out.kept (HO5.out.quiet oz) fun e => by have h1 := HJ.out.unk.lt e; have h2 := HX7.out; omega)
              clear x3 x1 HN oz HJ5
              go_wp2_with fail
              go_meet
              exact ⟨HJ6, HO6⟩
            case rest =>
              obtain ⟨HQ6, C8⟩ := hcut
              rename World => wx
              rename Value => u9n
              go_upto_region 17 with fail
              refine p_begin ?_
              have HS : Hid (Only None' wx wx) := Lib.hid (Only.refl _ _)
              have HN : Hid (Only None' wx wx) := Lib.hid (Only.refl _ _)
              refine p_take 0 (u8) rfl (YR.pure (by rfl) fun w hw => y_move w rfl rfl) ?_
              simp only [Act.put, List.setIfInBounds_toArray, List.set_cons_zero, List.set_cons_succ]
              refine p_take 1 (((⟨z1, z2, z3, false, z5, z6, z7, z8, z9, za, zb, zc⟩ : Ev)).vv) rfl (YR.pure (by rfl) fun w hw => y_load31 (e := (⟨z1, z2, z3, false, z5, z6, z7, z8, z9, za, zb, zc⟩ : Ev)) rfl rfl (C8.out.kept hw fun e => e)) ?_
              simp only [Act.put, List.setIfInBounds_toArray, List.set_cons_zero, List.set_cons_succ]
              refine p_one 2 rfl (by rfl) fun wi oi => ?_
              refine wp_events [(⟨z1, z2, z3, false, z5, z6, z7, z8, z9, za, zb, zc⟩ : Ev)] _ 1 rfl rfl (by simp) (by simp) (by rfl) fun vs wj he _ oj => ?_
              have HT2 := Lib.hid (HN.out.trans (oi.trans oj))
              simp only [Act.put, List.setIfInBounds_toArray, List.set_cons_zero, List.set_cons_succ]
              clear HN HS
              have HN := HT2
              have HE := Lib.hid he
              clear he oi oj HT2
              refine p_one 3 rfl (by rfl) fun wi oi => ?_
              refine wp_append_ev (l := (lessOf kk (h.take j))) (l2 := [(⟨z1, z2, z3, false, z5, z6, z7, z8, z9, za, zb, zc⟩ : Ev)]) rfl rfl rfl (HQ6.out.new_ (HN.out.trans oi)).less (HE.out.only oi fun _ _ e => e) (by have h1 := less_le kk h j; have h2 := HQ150.out; have h3 := HQN.out; show _ + 1 ≤ _; omega) fun v5 w5 hv5 hg5 hf5 => ?_
              have HJ5 := Lib.hid ((HQ6.out.new_ (HN.out.trans oi)).appL hv5 hg5 hf5)
              have HO5 := Lib.hid (((HN.out.trans oi).mono (S' := fun p => (u8).ownBlock = some p) fun _ _ e => e.elim).grown hg5 fun k hk => hk)
              simp only [Act.put, List.setIfInBounds_toArray, List.set_cons_zero, List.set_cons_succ]
              clear hv5 hg5 hf5 oi
              refine p_take 4 (v5) rfl (YR.pure (by rfl) fun w hw => y_assign w rfl rfl) ?_
              simp only [Act.put, List.setIfInBounds_toArray, List.set_cons_zero, List.set_cons_succ]
              refine p_done fun wz oz => ?_
              have HJ6 := Lib.hid (HJ5.out.new_ oz)
              clear HN oz HJ5
              go_wp2_with fail
              go_roundw
              case rel =>
                refine ⟨j + 1, by have := HLT.out; omega, next_int (by have := HQ150.out; have := HLT.out; omega), ?_⟩
                rw [less_next kk HXX.out, veil_next kk HXX.out, if_neg HM.out, HV.out]
                exact HJ6
              case measure => exact meas HLT.out (by have := HQ150.out; omega)
          · have hz4 : True := trivial
            clear hz4
            go_upto_region 16 with fail
            go_cut [9] from 65 to 68 (fun u9 wx => Hid (QL w2 wx (.slice (some ⟨g, off, none⟩) q hc) u8 u9 h (lessOf kk (h.take j)) ((h.take j).map (Ev.veil kk) ++ [(⟨z1, z2, z3, true, z5, z6, z7, z8, z9, za, zb, zc⟩ : Ev)])) ∧ Hid (CellsR wx X (⟨z1, z2, z3, true, z5, z6, z7, z8, z9, za, zb, zc⟩ : Ev).row))
            case first =>
              refine p_begin ?_
              have HS : Hid (Only None' w7 w7) := Lib.hid (Only.refl _ _)
              have HN : Hid (Only None' w7 w7) := Lib.hid (Only.refl _ _)
              refine p_take 0 (u9) rfl (YR.pure (by rfl) fun w hw => y_move w rfl rfl) ?_
              simp only [Act.put, List.setIfInBounds_toArray, List.set_cons_zero, List.set_cons_succ]
              refine p_take 1 (((⟨z1, z2, z3, true, z5, z6, z7, z8, z9, za, zb, zc⟩ : Ev)).vv) rfl (YR.pure (by rfl) fun w hw => y_load31 (e := (⟨z1, z2, z3, true, z5, z6, z7, z8, z9, za, zb, zc⟩ : Ev)) rfl rfl (C7.out.kept hw fun e => e)) ?_
              simp only [Act.put, List.setIfInBounds_toArray, List.set_cons_zero, List.set_cons_succ]
              refine p_one 2 rfl (by rfl) fun wi oi => ?_
              refine wp_events [(⟨z1, z2, z3, true, z5, z6, z7, z8, z9, za, zb, zc⟩ : Ev)] _ 1 rfl rfl (by simp) (by simp) (by rfl) fun vs wj he _ oj => ?_
              have HT2 := Lib.hid (HN.out.trans (oi.trans oj))
              simp only [Act.put, List.setIfInBounds_toArray, List.set_cons_zero, List.set_cons_succ]
              clear HN HS
              have HN := HT2
              have HE := Lib.hid he
              clear he oi oj HT2
              refine p_one 3 rfl (by rfl) fun wi oi => ?_
              refine wp_append_ev (l := ((h.take j).map (Ev.veil kk))) (l2 := [(⟨z1, z2, z3, true, z5, z6, z7, z8, z9, za, zb, zc⟩ : Ev)]) rfl rfl rfl (H7.out.new_ (HN.out.trans oi)).unk (HE.out.only oi fun _ _ e => e) (by have h1 := veil_le kk h j; have h2 := HQ150.out; have h3 := HQN.out; show _ + 1 ≤ _; omega) fun v5 w5 hv5 hg5 hf5 => ?_
              have HJ5 := Lib.hid ((H7.out.new_ (HN.out.trans oi)).appU hv5 hg5 hf5)
              have HO5 := Lib.hid (((HN.out.trans oi).mono (S' := fun p => (u9).ownBlock = some p) fun _ _ e => e.elim).grown hg5 fun k hk => hk)
              simp only [Act.put, List.setIfInBounds_toArray, List.set_cons_zero, List.set_cons_succ]
              clear hv5 hg5 hf5 oi
              refine p_take 4 (v5) rfl (YR.pure (by rfl) fun w hw => y_assign w rfl rfl) ?_
              simp only [Act.put, List.setIfInBounds_toArray, List.set_cons_zero, List.set_cons_succ]
              refine p_done fun wz oz => ?_
              have HJ6 := Lib.hid (HJ5.out.new_ oz)
              have HO6 : Hid (CellsR wz X (⟨z1, z2, z3, true, z5, z6, z7, z8, z9, za, zb, zc⟩ : Ev).row) := Lib.hid (C7.out.kept (HO5.out.quiet oz) fun e => by have h1 := HJ.out.unk.lt e; have h2 := HX7.out; omega)
              clear x3 x1 HN oz HJ5
              go_wp2_with fail
              go_meet
              exact ⟨HJ6, HO6⟩
            case rest =>
              obtain ⟨HQ6, C8⟩ := hcut
              rename World => wx
              rename Value => u9n
              go_upto_region 17 with fail
              refine p_begin ?_
              have HS : Hid (Only None' wx wx) := Lib.hid (Only.refl _ _)
              have HN : Hid (Only None' wx wx) := Lib.hid (Only.refl _ _)
              refine p_take 0 (u8) rfl (YR.pure (by rfl) fun w hw => y_move w rfl rfl) ?_
              simp only [Act.put, List.setIfInBounds_toArray, List.set_cons_zero, List.set_cons_succ]
              refine p_take 1 (((⟨z1, z2, z3, true, z5, z6, z7, z8, z9, za, zb, zc⟩ : Ev)).vv) rfl (YR.pure (by rfl) fun w hw => y_load31 (e := (⟨z1, z2, z3, true, z5, z6, z7, z8, z9, za, zb, zc⟩ : Ev)) rfl rfl (C8.out.kept hw fun e => e)) ?_
              simp only [Act.put, List.setIfInBounds_toArray, List.set_cons_zero, List.set_cons_succ]
              refine p_one 2 rfl (by rfl) fun wi oi => ?_
              refine wp_events [(⟨z1, z2, z3, true, z5, z6, z7, z8, z9, za, zb, zc⟩ : Ev)] _ 1 rfl rfl (by simp) (by simp) (by rfl) fun vs wj he _ oj => ?_
              have HT2 := Lib.hid (HN.out.trans (oi.trans oj))
              simp only [Act.put, List.setIfInBounds_toArray, List.set_cons_zero, List.set_cons_succ]
              clear HN HS
              have HN := HT2
              have HE := Lib.hid he
              clear he oi oj HT2
              refine p_one 3 rfl (by rfl) fun wi oi => ?_
              refine wp_append_ev (l := (lessOf kk (h.take j))) (l2 := [(⟨z1, z2, z3, true, z5, z6, z7, z8, z9, za, zb, zc⟩ : Ev)]) rfl rfl rfl (HQ6.out.new_ (HN.out.trans oi)).less (HE.out.only oi fun _ _ e => e) (by have h1 := less_le kk h j; have h2 := HQ150.out; have h3 := HQN.out; show _ + 1 ≤ _; omega) fun v5 w5 hv5 hg5 hf5 => ?_
              have HJ5 := Lib.hid ((HQ6.out.new_ (HN.out.trans oi)).appL hv5 hg5 hf5)
              have HO5 := Lib.hid (((HN.out.trans oi).mono (S' := fun p => (u8).ownBlock = some p) fun _ _ e => e.elim).grown hg5 fun k hk => hk)
              simp only [Act.put, List.setIfInBounds_toArray, List.set_cons_zero, List.set_cons_succ]
              clear hv5 hg5 hf5 oi
              refine p_take 4 (v5) rfl (YR.pure (by rfl) fun w hw => y_assign w rfl rfl) ?_
              simp only [Act.put, List.setIfInBounds_toArray, List.set_cons_zero, List.set_cons_succ]
              refine p_done fun wz oz => ?_
              have HJ6 := Lib.hid (HJ5.out.new_ oz)
              clear HN oz HJ5
              go_wp2_with fail
              go_roundw
              case rel =>
                refine ⟨j + 1, by have := HLT.out; omega, next_int (by have := HQ150.out; have := HLT.out; omega), ?_⟩
                rw [less_next kk HXX.out, veil_next kk HXX.out, if_neg HM.out, HV.out]
                exact HJ6
              case measure => exact meas HLT.out (by have := HQ150.out; omega)
      · obtain rfl : j = q := by omega
        have et : h.take j = h := List.take_of_length_le (by rw [HQN.out]; exact Nat.le_refl _)
        rw [et] at HJ
        clear hlt hj et
        obtain ⟨la, lc, rfl, _, _⟩ := HJ.out.less.shape
        obtain ⟨ua, uc, rfl, _, _⟩ := HJ.out.unk.shape
        have hk1 := check_any (er_vec HJ.out.less) (HOK.out.less kk).1 (HOK.out.less kk).2
        rw [HCK.out.2.2.1 kk] at hk1
        obtain ⟨ln, hln⟩ : ∃ ln, ln = (lessOf kk h).length := ⟨_, rfl⟩
        obtain ⟨un, hun⟩ : ∃ un, un = (h.map (Ev.veil kk)).length := ⟨_, rfl⟩
        rw [← hln] at hk1 ⊢
        have HK1 := Lib.hid hk1
        have HK2 : Hid (∀ w', Only None' wr w' → Calls Try.prog 10 #[.slice ua ((h.map (Ev.veil kk)).length) uc] w' fun e w'' => e = .returned (.tuple #[.bool true, .int .i64 0]) ∧ Only None' w' w'') := Lib.hid fun w' o => by
          have := check_any (er_vec (HJ.out.new_ o).unk) (HOK.out.veil kk).1 (HOK.out.veil kk).2
          rw [HCK.out.2.2.2.1 kk] at this
          exact this
        rw [← hun] at HK2 ⊢
        clear hk1 hln hun
        go_wp2_with fail
        refine HK1.out.mono ?_
        rintro e w6 ⟨rfl, o6⟩
        have HK3 := Lib.hid (HK2.out w6 o6)
        have HO6 := Lib.hid o6
        clear o6 HK2 HK1
        go_wp2_with fail
        refine HK3.out.mono ?_
        rintro e w7 ⟨rfl, o7⟩
        have HO7 := Lib.hid o7
        clear o7 HK3
        go_wp2_with fail
        go_ret
        exact ⟨rfl, (HO2.out.trans (HJ.out.only.trans (HO6.out.trans HO7.out))).below (Nat.le_refl _) fun k e => e.elim⟩
end Go.Proofs.Ytajbagdgjbihjaa
