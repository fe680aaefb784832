/- Of (21): the walk. -/
import Derived.Test.YtajbagdgjbihjaaE8
namespace Go.Proofs.Ytajbagdgjbihjaa
open Go.RowKit Go.Maps Go.Sort
set_option linter.unusedVariables false

set_option maxRecDepth 20000 in
theorem OSt.look {w wr : World} {b nn j : Nat} {key : ByteArray} {l : List Ev} {D : DataW Unit} {v : Value} (h : OSt w wr b nn key l j D v) {c i : Int} (hc : Wf c) (hi : Wf i) :
    (Instr.lookup 60 (.map (some b)) (.agg #[.int .i64 c, .int .i64 i]) false).run Try.prog wr = .ok (.int .i64 (One (opn key (l.take j) (c, i)))) wr := by
  obtain ⟨x, h1, h2, _⟩ := h.own.lookup_int keyed63 under60 Try.underlying3 (Try.zeroValue3 _) (key_who hc hi)
  have h3 := h.at_ (c, i) hc hi
  have h4 := h2.symm.trans h3
  injection h4 with h4
  injection h4 with _ h4
  rw [h4] at h1
  exact h1
theorem has_wk {w wr : World} {b nn j : Nat} {key : ByteArray} {l : List Ev} {D : DataW Unit} {v : Value} (h : OSt w wr b nn key l j D v) : IsMap D := h.own.isMap
theorem put_at {w wr : World} {b nn j : Nat} {key : ByteArray} {l : List Ev} {D : DataW Unit} {v : Value} {e : Ev} (h : OSt w wr b nn key l j D v) (he : l[j]? = some e) (hb : e.back = false) (hh : e.hit key = true) (h1 : Wf e.client) (h2 : Wf e.id) {p : Int × Int} (h3 : Wf p.1) (h4 : Wf p.2) :
    (D.put (wk (e.client, e.id)) (.lit (.int .i64 1))).atKey (wk p) (.lit (.int .i64 0)) = .lit (.int .i64 (One (opn key (l.take (j + 1)) p))) := by
  rw [opn_succ he, hb, hh]
  simp only [Bool.false_eq_true, if_false, if_true]
  by_cases ew : e.who = p
  · subst ew
    rw [if_pos rfl]
    exact Maps.atKey_put_same h.own.isMap (by trivial) _ _
  · rw [if_neg ew]
    exact (Maps.atKey_put_other (fun e2 => ew (wk_inj h1 h2 h3 h4 e2.symm)) _ _).trans (h.at_ p h3 h4)
theorem del_at {w wr : World} {b nn j : Nat} {key : ByteArray} {l : List Ev} {D : DataW Unit} {v : Value} {e : Ev} (h : OSt w wr b nn key l j D v) (he : l[j]? = some e) (hb : e.back = true) (h1 : Wf e.client) (h2 : Wf e.id) {p : Int × Int} (h3 : Wf p.1) (h4 : Wf p.2) :
    (D.del (wk (e.client, e.id))).atKey (wk p) (.lit (.int .i64 0)) = .lit (.int .i64 (One (opn key (l.take (j + 1)) p))) := by
  rw [opn_succ he, hb]
  simp only [if_true]
  by_cases ew : e.who = p
  · subst ew
    rw [if_pos rfl]
    exact Maps.atKey_del_same _
  · rw [if_neg ew]
    exact (Maps.atKey_del_other (fun e2 => ew (wk_inj h1 h2 h3 h4 e2.symm)) _).trans (h.at_ p h3 h4)
set_option maxRecDepth 20000 in
set_option maxHeartbeats 1000000 in
theorem of_any {w : World} {v : Value} {l : List Ev} (h : ER w v l) (hl : l.length ≤ 150) (hw : ∀ e ∈ l, Wf e.client ∧ Wf e.id) (key : ByteArray) : Calls Try.prog 21 #[v, .string key] w fun e w' => ∃ v', e = .returned v' ∧ Vec w' 12 v' (ofl key l).length ((ofl key l).flatMap Ev.row) ∧ (∀ g, v'.ownBlock = some g → w.heap.size ≤ g) ∧ Only None' w w' := by
  obtain ⟨a, k, rfl⟩ := h.shape
  have H := Lib.hid h
  have HW := Lib.hid hw
  obtain ⟨n, hn⟩ : ∃ n, n = l.length := ⟨_, rfl⟩
  have HL := Lib.hid (And.intro hn hl)
  have hmm := @run_makeMap Try.prog
  obtain ⟨z31, hz31, hzs31⟩ := zero31
  have HB31 := Lib.hid t31_bytes
  rw [← hn] at H ⊢
  clear h hn hl hw
  go_enter Try.func21, Try.ntmps21
  go_wp2_with fail
  obtain ⟨b, hb⟩ : ∃ b, b = w.heap.size := ⟨_, rfl⟩
  have L0 : Hid (OSt w (w.alloc (.map #[] 0)) b 0 key l 0 (.map []) (.slice none 0 0)) := Lib.hid ⟨(Only.refl None' w).alloc _, by rw [hb]; exact World.ownsMap_made w Try.prog 63 _, fun p _ _ => by simp [opn, openB, One, DataW.atKey], Nat.le_refl _, by omega, by simpa [ofl, picked] using Vec.nil _ _, fun g hg => by cases hg⟩
  rw [← hb]
  clear hb
  go_loopw [5, 13] (fun o i wr => ∃ (j nn m : Nat) (D : DataW Unit) (oa : Option Addr) (oc : Nat), j ≤ n ∧ o = .slice oa m oc ∧ i = .int .i64 (j : Int) ∧ Hid (m = (ofl key (l.take j)).length ∧ OSt w wr b nn key l j D (.slice oa m oc))) (fun o i wr => n - (intOf i).toNat)
  case atStart => exact ⟨0, 0, 0, _, none, 0, by omega, rfl, rfl, Lib.hid ⟨rfl, L0.out⟩⟩
  case round =>
    clear L0
    obtain ⟨j, nn, m, D, oa, oc, hj, rfl, rfl, HI⟩ := hrel
    by_cases hlt : j < n
    · have hjl : j < l.length := by have := HL.out.1; omega
      have RV := H.out.only HI.out.2.only fun _ _ e => e
      obtain ⟨g, off, cp, e, hg, hcell⟩ := RV.at_ hjl
      injection e with e e2 e3
      subst e
      clear e2 e3 RV
      obtain ⟨x, hx⟩ : ∃ x, x = l[j] := ⟨_, rfl⟩
      rw [← hx] at hcell
      have HX : Hid (l[j]? = some x) := Lib.hid (by rw [hx]; exact List.getElem?_eq_getElem hjl)
      have HWX : Hid (Wf x.client ∧ Wf x.id) := Lib.hid (HW.out x (by rw [hx]; exact List.getElem_mem hjl))
      have HM : Hid (m ≤ 150) := Lib.hid (by
        have h1 := ofl_len (key := key) (l := l) j (by omega)
        have := HI.out.1
        have := HL.out
        omega)
      clear hx
      obtain ⟨z1, z2, z3, z4, z5, z6, z7, z8, z9, za, zb, zc⟩ := x
      have y0 := hcell 0 _ rfl
      have y1 := hcell 1 _ rfl
      have y2 := hcell 2 _ rfl
      have y3 := hcell 3 _ rfl
      have y4 := hcell 4 _ rfl
      have y5 := hcell 5 _ rfl
      have y6 := hcell 6 _ rfl
      have y7 := hcell 7 _ rfl
      have y8 := hcell 8 _ rfl
      have y9 := hcell 9 _ rfl
      have y10 := hcell 10 _ rfl
      have y11 := hcell 11 _ rfl
      rw [Nat.add_zero] at y0
      simp only at y0 y1 y2 y3 y4 y5 y6 y7 y8 y9 y10 y11
      have i0 : (0 : Int) ≤ (j : Int) := by omega
      have i1 : (j : Int) < (n : Int) := by omega
      have HLT := Lib.hid hlt
      clear hlt hj hjl hcell
      go_upto_region 6 with fail
      obtain ⟨w2, hw2⟩ : ∃ w2, w2 = wr.alloc (.cells #[.int .i64 z1, .int .i64 z2, .int .i64 z3, .bool z4, .int .u8 z5, .string z6, .string z7, .string z8, .bool z9, .int .u8 za, .bool zb, .string zc] 31) := ⟨_, rfl⟩
      obtain ⟨T, hT⟩ : ∃ T, T = wr.heap.size := ⟨_, rfl⟩
      have C2 : Hid (CellsR w2 T [.int .i64 z1, .int .i64 z2, .int .i64 z3, .bool z4, .int .u8 z5, .string z6, .string z7, .string z8, .bool z9, .int .u8 za, .bool zb, .string zc]) := Lib.hid (by rw [hw2, hT]; exact cells_new wr [.int .i64 z1, .int .i64 z2, .int .i64 z3, .bool z4, .int .u8 z5, .string z6, .string z7, .string z8, .bool z9, .int .u8 za, .bool zb, .string zc] 31)
      have O2 : Hid (Only None' wr w2) := Lib.hid (by rw [hw2]; exact (Only.refl None' wr).alloc _)
      have t0 := C2.out.is 0 _ rfl
      have t1 := C2.out.is 1 _ rfl
      have HTR := Lib.hid hT
      rw [← hw2, ← hT]
      clear hw2 hT y0 y1 y2 y3 y4 y5 y6 y7 y8 y9 y10 y11 hg
      go_upto_region 7 with fail
      obtain ⟨w3, hw3⟩ : ∃ w3, w3 = w2.alloc (.cells #[.int .i64 z1, .int .i64 z2] 63) := ⟨_, rfl⟩
      obtain ⟨U, hU⟩ : ∃ U, U = w2.heap.size := ⟨_, rfl⟩
      have O3 : Hid (Only None' w2 w3) := Lib.hid (by rw [hw3]; exact (Only.refl None' w2).alloc _)
      have U3 : Hid (CellsR w3 U [.int .i64 z1, .int .i64 z2]) := Lib.hid (by rw [hw3, hU]; exact cells_new w2 [.int .i64 z1, .int .i64 z2] 63)
      have C3 : Hid (CellsR w3 T [.int .i64 z1, .int .i64 z2, .int .i64 z3, .bool z4, .int .u8 z5, .string z6, .string z7, .string z8, .bool z9, .int .u8 za, .bool zb, .string zc]) := Lib.hid (C2.out.kept O3.out fun e => e)
      have H3 : Hid (OSt w w3 b nn key l j D (.slice oa m oc)) := Lib.hid (HI.out.2.new_ (O2.out.trans O3.out))
      have HUR : Hid (wr.heap.size ≤ U) := Lib.hid (by rw [hU]; exact O2.out.size)
      rw [← hw3, ← hU]
      clear hw3 hU t0 t1 O2 O3 C2
      have t0 := C3.out.is 0 _ rfl
      have t1 := C3.out.is 1 _ rfl
      have t2 := C3.out.is 2 _ rfl
      have t3 := C3.out.is 3 _ rfl
      have t4 := C3.out.is 4 _ rfl
      have t5 := C3.out.is 5 _ rfl
      have t6 := C3.out.is 6 _ rfl
      have t7 := C3.out.is 7 _ rfl
      have t8 := C3.out.is 8 _ rfl
      have t9 := C3.out.is 9 _ rfl
      have t10 := C3.out.is 10 _ rfl
      have t11 := C3.out.is 11 _ rfl
      have s0 := U3.out.is 0 _ rfl
      have s1 := U3.out.is 1 _ rfl
      obtain ⟨hit, hhit⟩ : ∃ t, (z6.toList == key.toList) = t := ⟨_, rfl⟩
      have HHIT := Lib.hid hhit
      have HLK := H3.out.look HWX.out.1 HWX.out.2
      obtain ⟨op, hop⟩ : ∃ t, opn key (l.take j) (z1, z2) = t := ⟨_, rfl⟩
      rw [hop] at HLK
      have HOP := Lib.hid hop
      clear hop
      have HTB : Hid (T ≠ b) := Lib.hid (by
        have h1 := HI.out.2.own.lt
        have h2 := HTR.out
        omega)
      have HUB : Hid (U ≠ b) := Lib.hid (by
        have h1 := HI.out.2.own.lt
        have h2 := HUR.out
        omega)
      have HTG : Hid (∀ g, (Value.slice oa m oc).ownBlock = some g → g ≠ T) := Lib.hid (fun g hg => by
        have h1 := HI.out.2.row.lt hg
        have h2 := HTR.out
        omega)
      cases z4 with
      | true =>
        clear HHIT hhit
        cases op with
        | false =>
          have g0 : decide ((0 : Int) < One false) = false := rfl
          have HS : Hid ((if true = true then opn key (l.take j) (z1, z2) else false) = false) := Lib.hid HOP.out
          go_wp2_with fail
          go_roundw
          case rel => exact ⟨j + 1, nn, m, D, oa, oc, by have := HLT.out; omega, rfl, next_int (by have := HL.out; have := HLT.out; omega), Lib.hid ⟨ofl_less HX.out HOP.out HI.out.1, H3.out.skip HX.out HOP.out⟩⟩
          case measure => exact meas HLT.out (by have := HL.out; omega)
        | true =>
          have g0 : decide ((0 : Int) < One true) = true := rfl
          go_wp2_with (first
            | (at_delete; refine wpList_delete_own _ rfl _ _ 60 63 rfl 3 keyed63 under60 (plainElem Try.prog 3) b nn D rfl H3.out.own (.agg #[.int .i64 z1, .int .i64 z2]) _ rfl (key_who HWX.out.1 HWX.out.2) ?_; intro w4 ho4 ht4; have HO4 := Lib.hid ho4; have O4 : Hid (Only (fun q => q = b) w3 w4) := Lib.hid ((Only.refl _ _).turned ht4 rfl); have C4 := Lib.hid (C3.out.kept O4.out fun e => HTB.out e); have U4 := Lib.hid (U3.out.kept O4.out fun e => HUB.out e); have HV4 : Hid (Vec w4 12 (.slice oa m oc) m ((ofl key (l.take j)).flatMap Ev.row)) := Lib.hid (by have h1 := H3.out.row; rw [← HI.out.1] at h1; exact h1.only O4.out fun g hg e => (H3.out.fresh g hg).2 e); have t0 := C4.out.is 0 _ rfl; have t1 := C4.out.is 1 _ rfl; have t2 := C4.out.is 2 _ rfl; have t3 := C4.out.is 3 _ rfl; have t4 := C4.out.is 4 _ rfl; have t5 := C4.out.is 5 _ rfl; have t6 := C4.out.is 6 _ rfl; have t7 := C4.out.is 7 _ rfl; have t8 := C4.out.is 8 _ rfl; have t9 := C4.out.is 9 _ rfl; have t10 := C4.out.is 10 _ rfl; have t11 := C4.out.is 11 _ rfl; have s0 := U4.out.is 0 _ rfl; have s1 := U4.out.is 1 _ rfl; clear ho4 ht4)
            | (at_builtin; refine wpList_append_any rfl _ _ 34 rfl 31 Try.t31 z31 12 Try.t31.bytes under34 info31 hz31 t31_size rfl hzs31 (by decide) (.slice oa m oc) m ((ofl key (l.take j)).flatMap Ev.row) rfl (HV4.out.alloc _) (.slice (some ⟨w4.heap.size, 0, none⟩) 1 1) 1 [.int .i64 z1, .int .i64 z2, .int .i64 z3, .bool true, .int .u8 z5, .string z6, .string z7, .string z8, .bool z9, .int .u8 za, .bool zb, .string zc] rfl (rd_new w4 [.int .i64 z1, .int .i64 z2, .int .i64 z3, .bool true, .int .u8 z5, .string z6, .string z7, .string z8, .bool z9, .int .u8 za, .bool zb, .string zc] 31 1 12 rfl (by decide)) (Ev.row_one ⟨z1, z2, z3, true, z5, z6, z7, z8, z9, za, zb, zc⟩) (by have := HM.out; unfold maxLen; omega) (by have h1 := HM.out; have h2 := HB31.out; have : (m + 1) * Try.t31.bytes ≤ 151 * 200 := Nat.mul_le_mul (by omega) h2; omega) ?_; intro v5 w5 hv5 hg5 hf5; obtain ⟨oa5, oc5, rfl, _, _⟩ := hv5.shape; have HY := Lib.hid (And.intro hv5 (And.intro hg5 hf5)); clear hv5 hg5 hf5))
          have HP : Hid (OSt w w5 b nn key l (j + 1) (D.del (wk (z1, z2))) (.slice oa5 (m + 1) oc5)) := Lib.hid (by
            exact H3.out.pick (e := ⟨z1, z2, z3, true, z5, z6, z7, z8, z9, za, zb, zc⟩) HX.out HOP.out HI.out.1 HO4.out O4.out (by have := H3.out.few; omega) (fun p h1 h2 => del_at H3.out HX.out rfl HWX.out.1 HWX.out.2 h1 h2) HY.out.1 HY.out.2.1 HY.out.2.2)
          go_roundw
          case rel => exact ⟨j + 1, nn, m + 1, _, oa5, oc5, by have := HLT.out; omega, rfl, next_int (by have := HL.out; have := HLT.out; omega), Lib.hid ⟨ofl_more HX.out HOP.out HI.out.1, HP.out⟩⟩
          case measure => exact meas HLT.out (by have := HL.out; omega)
      | false =>
        clear HOP HLK
        cases hit with
        | false =>
          go_wp2_with fail
          go_roundw
          case rel => exact ⟨j + 1, nn, m, D, oa, oc, by have := HLT.out; omega, rfl, next_int (by have := HL.out; have := HLT.out; omega), Lib.hid ⟨ofl_less HX.out HHIT.out HI.out.1, H3.out.skip HX.out HHIT.out⟩⟩
          case measure => exact meas HLT.out (by have := HL.out; omega)
        | true =>
          go_wp2_with (first
            | (at_mapUpdate; refine wpList_mapUpdate_in _ rfl _ _ _ 60 rfl 63 3 keyed63 under60 (plainElem Try.prog 3) b nn D rfl H3.out.own (by have h1 := H3.out.few; have h2 := HLT.out; have h3 := HL.out; unfold maxLen; omega) (.agg #[.int .i64 z1, .int .i64 z2]) (.int .i64 1) _ rfl rfl (key_who HWX.out.1 HWX.out.2) (.lit (.int .i64 1)) [] (plainElem_int Try.underlying3 (by decide)) ?_; intro w4 ho4 ht4; have HO4 := Lib.hid ho4; have O4 : Hid (Only (fun q => q = b) w3 w4) := Lib.hid ((Only.refl _ _).turned ht4 rfl); have C4 := Lib.hid (C3.out.kept O4.out fun e => HTB.out e); have U4 := Lib.hid (U3.out.kept O4.out fun e => HUB.out e); have HV4 : Hid (Vec w4 12 (.slice oa m oc) m ((ofl key (l.take j)).flatMap Ev.row)) := Lib.hid (by have h1 := H3.out.row; rw [← HI.out.1] at h1; exact h1.only O4.out fun g hg e => (H3.out.fresh g hg).2 e); have t0 := C4.out.is 0 _ rfl; have t1 := C4.out.is 1 _ rfl; have t2 := C4.out.is 2 _ rfl; have t3 := C4.out.is 3 _ rfl; have t4 := C4.out.is 4 _ rfl; have t5 := C4.out.is 5 _ rfl; have t6 := C4.out.is 6 _ rfl; have t7 := C4.out.is 7 _ rfl; have t8 := C4.out.is 8 _ rfl; have t9 := C4.out.is 9 _ rfl; have t10 := C4.out.is 10 _ rfl; have t11 := C4.out.is 11 _ rfl; have s0 := U4.out.is 0 _ rfl; have s1 := U4.out.is 1 _ rfl; clear ho4 ht4)
            | (at_builtin; refine wpList_append_any rfl _ _ 34 rfl 31 Try.t31 z31 12 Try.t31.bytes under34 info31 hz31 t31_size rfl hzs31 (by decide) (.slice oa m oc) m ((ofl key (l.take j)).flatMap Ev.row) rfl (HV4.out.alloc _) (.slice (some ⟨w4.heap.size, 0, none⟩) 1 1) 1 [.int .i64 z1, .int .i64 z2, .int .i64 z3, .bool false, .int .u8 z5, .string z6, .string z7, .string z8, .bool z9, .int .u8 za, .bool zb, .string zc] rfl (rd_new w4 [.int .i64 z1, .int .i64 z2, .int .i64 z3, .bool false, .int .u8 z5, .string z6, .string z7, .string z8, .bool z9, .int .u8 za, .bool zb, .string zc] 31 1 12 rfl (by decide)) (Ev.row_one ⟨z1, z2, z3, false, z5, z6, z7, z8, z9, za, zb, zc⟩) (by have := HM.out; unfold maxLen; omega) (by have h1 := HM.out; have h2 := HB31.out; have : (m + 1) * Try.t31.bytes ≤ 151 * 200 := Nat.mul_le_mul (by omega) h2; omega) ?_; intro v5 w5 hv5 hg5 hf5; obtain ⟨oa5, oc5, rfl, _, _⟩ := hv5.shape; have HY := Lib.hid (And.intro hv5 (And.intro hg5 hf5)); have C5 := Lib.hid (C4.out.kept (S := fun q => (Value.slice oa m oc).ownBlock = some q) (((Only.refl _ w4).alloc _).grown hg5 fun k e => e) (fun e => HTG.out _ e rfl)); have t3' := C5.out.is 3 _ rfl; clear hv5 hg5 hf5))
          have HP : Hid (OSt w w5 b (nn + 1) key l (j + 1) (D.put (wk (z1, z2)) (.lit (.int .i64 1))) (.slice oa5 (m + 1) oc5)) := Lib.hid (by
            exact H3.out.pick (e := ⟨z1, z2, z3, false, z5, z6, z7, z8, z9, za, zb, zc⟩) HX.out HHIT.out HI.out.1 HO4.out O4.out (by have := H3.out.few; omega) (fun p h1 h2 => put_at H3.out HX.out rfl HHIT.out HWX.out.1 HWX.out.2 h1 h2) HY.out.1 HY.out.2.1 HY.out.2.2)
          go_roundw
          case rel => exact ⟨j + 1, (nn + 1), m + 1, _, oa5, oc5, by have := HLT.out; omega, rfl, next_int (by have := HL.out; have := HLT.out; omega), Lib.hid ⟨ofl_more HX.out HHIT.out HI.out.1, HP.out⟩⟩
          case measure => exact meas HLT.out (by have := HL.out; omega)
    · obtain rfl : j = n := by omega
      go_wp2_with fail
      go_ret
      have h1 := HI.out.2.row
      have h2 := HI.out.1
      have e : l.take j = l := List.take_of_length_le (by have := HL.out.1; omega)
      rw [e] at h1 h2
      refine ⟨_, rfl, ?_, fun g hg => (HI.out.2.fresh g hg).1, HI.out.2.only⟩
      rw [← h2] at h1 ⊢
      exact h1
end Go.Proofs.Ytajbagdgjbihjaa
