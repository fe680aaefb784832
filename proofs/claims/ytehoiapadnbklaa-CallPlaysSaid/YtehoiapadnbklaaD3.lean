/- The document's Tell. -/
import Derived.Test.YtehoiapadnbklaaD2
namespace Go.Proofs.Ytehoiapadnbklaa
open Go.RowKit Go.Maps
set_option linter.unusedVariables false

theorem docTo_fin {w w5 wF : World} {X : Nat} {lv lv' lo : Value} {c c' : Cl} {S : Nat → Prop} (h : DocAt w X lv c) (o : Only (fun k => k = X ∨ lv.ownBlock = some k) w w5) (C : CellsR w5 X [.int .i64 (c'.life : Int), .int .i64 (c'.given : Int), lo]) (row : WRow w5 lv' c'.ws) (hf : ∀ g, lv'.ownBlock = some g → lv.ownBlock = some g ∨ w.heap.size ≤ g) (ok : c'.Ok) (oF : Only S (w5.setCell ⟨X, 2, none⟩ lv') wF) (hS : ∀ k, S k → w.heap.size ≤ k ∧ lv'.ownBlock ≠ some k) : DocTo w wF X lv c' := by
  have o2 : Only (fun q => q = X) w5 (w5.setCell ⟨X, 2, none⟩ lv') := (Only.refl (fun q => q = X) w5).setCell (p := ⟨X, 2, none⟩) rfl _
  have hX := h.cells.lt
  have hne : ∀ g, lv'.ownBlock = some g → g ≠ X := fun g hg e => by
    rcases hf g hg with h1 | h1
    · exact h.apart g h1 e
    · omega
  have hD : DocAt (w5.setCell ⟨X, 2, none⟩ lv') X lv' c' := ⟨C.set (i := 2) (by simp) lv', row.only o2 hne, hne, ok⟩
  refine ⟨lv', hD.only oF (fun e => by have := (hS X e).1; omega) (fun g hg e => (hS g e).2 hg), (o.trans (o2.mono fun k _ e => Or.inl e)).trans2 oF fun k hk e => ?_, hf⟩
  have := (hS k e).1
  omega
/-- a row under way: the first k of l that are let through -/
structure FRow (w wr : World) (l : List Wt) (q : Wt → Bool) (k : Nat) (v : Value) : Prop where
  row : WRow wr v ((l.take k).filter q)
  new : ∀ g, v.ownBlock = some g → w.heap.size ≤ g
section
variable {w wr y : World} {l : List Wt} {q : Wt → Bool} {k : Nat} {v v' : Value} {rec : Wt} {o : Obj} {S : Nat → Prop}
theorem FRow.zero (w wr : World) (l : List Wt) (q : Wt → Bool) : FRow w wr l q 0 (.slice none 0 0) := ⟨WRow.nil _, fun g hg => by cases hg⟩
theorem FRow.only (h : FRow w wr l q k v) (o : Only S wr y) (hn : ∀ g, v.ownBlock = some g → ¬ S g) : FRow w y l q k v := ⟨h.row.only o hn, h.new⟩
theorem FRow.same (h : FRow w wr l q k v) (he : (l.take (k + 1)).filter q = (l.take k).filter q) : FRow w wr l q (k + 1) v := ⟨by rw [he]; exact h.row, h.new⟩
theorem FRow.push (h : FRow w wr l q k v) (hw : w.heap.size ≤ wr.heap.size) (he : (l.take (k + 1)).filter q = (l.take k).filter q ++ [rec])
    (hv : Vec y 7 v' (((l.take k).filter q).length + 1) (((l.take k).filter q).flatMap Wt.row ++ rec.row)) (hf : ∀ g, v'.ownBlock = some g → v.ownBlock = some g ∨ (wr.alloc o).heap.size ≤ g) : FRow w y l q (k + 1) v' := by
  have hsz : (wr.alloc o).heap.size = wr.heap.size + 1 := by simp
  refine ⟨?_, fun g hg => ?_⟩
  · rw [he]
    refine ⟨?_⟩
    rw [List.length_append, List.flatMap_append]
    simpa using hv
  · rcases hf g hg with h1 | h1
    · exact h.new g h1
    · omega
theorem FRow.grew (h : FRow w wr l q k v) (ow : Only None' w wr) (hg : (wr.alloc o).grownBy y v.ownBlock) : Only None' w y :=
  (ow.alloc o).trans2 ((Only.refl (fun g => v.ownBlock = some g) (wr.alloc o)).grown hg fun g hg => hg) fun g hg e => by have := h.new g e; omega
theorem FRow.len (h : FRow w wr l q k v) : ∃ a c, v = .slice a ((l.take k).filter q).length c := h.row.shape
end
theorem fil_len (q : Wt → Bool) (l : List Wt) (k : Nat) : ((l.take k).filter q).length ≤ l.length := Nat.le_trans (List.length_filter_le q _) (List.length_take_le' k l)

set_option maxRecDepth 20000 in
set_option maxHeartbeats 1000000 in
theorem dtell_any {w : World} {X : Nat} {lv : Value} {c : Cl} (h : DocAt w X lv c) (num : Int) : Calls Try.prog 13 #[.pointer (some ⟨X, 0, none⟩), .int .i64 num] w fun e w' => e = .returned (.tuple #[((c.find num).getD Wt.zero).v, .bool (c.find num).isSome]) ∧ DocTo w w' X lv (c.told num) := by
  obtain ⟨a, k, rfl⟩ := h.shape
  have H := Lib.hid h
  have HN := Lib.hid h.ok.few
  obtain ⟨Q, hQ⟩ : ∃ Q : Wt → Bool, Q = fun x => decide (x.req ≠ num) := ⟨_, rfl⟩
  have HQ := Lib.hid hQ
  clear hQ
  have HLK := Lib.hid (fun w' (o : Only None' w w') => dlook_any (h.new o) num)
  obtain ⟨x, hx⟩ : ∃ x, x = (c.find num).getD Wt.zero := ⟨_, rfl⟩
  obtain ⟨b, hb⟩ : ∃ b, b = (c.find num).isSome := ⟨_, rfl⟩
  rw [← hx, ← hb] at HLK ⊢
  clear hx hb
  obtain ⟨x1, x2, x3, x4, x5, x6, x7⟩ := x
  unfold Wt.v at HLK ⊢
  simp only at HLK ⊢
  obtain ⟨n, hn⟩ : ∃ n, n = c.ws.length := ⟨_, rfl⟩
  have HL := Lib.hid hn
  rw [← hn] at H ⊢
  clear h hn
  go_enter Try.func13, Try.ntmps13
  go_wp2_with fail
  refine (HLK.out _ ((Only.refl None' w).alloc _)).mono ?_
  rintro e w1 ⟨rfl, o1⟩
  have O1 : Hid (Only None' w w1) := Lib.hid (((Only.refl None' w).alloc _).trans o1)
  have C1 : Hid (CellsR w1 w.heap.size [.int .i64 0, .string ⟨#[]⟩, .int .i64 0, .int .i64 0, .int .i64 0, .int .i64 0, .bool false]) := Lib.hid ((cells_new w [.int .i64 0, .string ⟨#[]⟩, .int .i64 0, .int .i64 0, .int .i64 0, .int .i64 0, .bool false] 43).kept o1 fun e => e)
  have lw : w.heap.size < w1.heap.size := C1.out.lt
  clear o1 HLK
  go_wp2_with fail
  obtain ⟨w2, hw2⟩ : ∃ w2, w2 = w1.alloc (.cells #[.int .i64 x1, .string x2, .int .i64 x3, .int .i64 x4, .int .i64 x5, .int .i64 x6, .bool x7] 43) := ⟨_, rfl⟩
  obtain ⟨T, hT⟩ : ∃ T, T = w.heap.size := ⟨_, rfl⟩
  obtain ⟨U, hU⟩ : ∃ U, U = w1.heap.size := ⟨_, rfl⟩
  have O2 : Hid (Only None' w1 w2) := Lib.hid (by rw [hw2]; exact (Only.refl None' w1).alloc _)
  have C2 : Hid (CellsR w2 U [.int .i64 x1, .string x2, .int .i64 x3, .int .i64 x4, .int .i64 x5, .int .i64 x6, .bool x7]) := Lib.hid (by rw [hw2, hU]; exact cells_new w1 [.int .i64 x1, .string x2, .int .i64 x3, .int .i64 x4, .int .i64 x5, .int .i64 x6, .bool x7] 43)
  have CT : Hid (CellsR w2 T [.int .i64 0, .string ⟨#[]⟩, .int .i64 0, .int .i64 0, .int .i64 0, .int .i64 0, .bool false]) := Lib.hid (by rw [hT]; exact C1.out.kept O2.out fun e => e)
  have HT := Lib.hid hT
  have O02 := Lib.hid (O1.out.trans O2.out)
  have HUT : Hid (T < U) := Lib.hid (by rw [hT, hU]; exact lw)
  rw [← hw2, ← hT, ← hU]
  clear hw2 hT hU C1 O1 O2 lw
  go_loopw [8, 9] (fun p i wr => ∃ (j : Nat) (pa : Option Addr) (pc : Nat), j ≤ n ∧ p = .slice pa ((c.ws.take j).filter Q).length pc ∧ i = .int .i64 (j : Int) ∧ Hid (Only None' w2 wr ∧ FRow w2 wr c.ws Q j (.slice pa ((c.ws.take j).filter Q).length pc))) (fun p i wr => n - (intOf i).toNat)
  case atStart => exact ⟨0, none, 0, by omega, rfl, rfl, Lib.hid ⟨Only.refl _ _, FRow.zero _ _ _ _⟩⟩
  case round =>
    obtain ⟨j, pa, pc, hj, rfl, rfl, HJ⟩ := hrel
    have HD := Lib.hid (H.out.new (O02.out.trans HJ.out.1))
    have c0 := HD.out.cells.is 0 _ rfl
    have c1 := HD.out.cells.is 1 _ rfl
    have c2 := HD.out.cells.is 2 _ rfl
    have cf := HD.out.cells.thaw
    have cl := HD.out.cells.lt
    by_cases hlt : j < n
    · have hjl : j < c.ws.length := by have := HL.out; omega
      obtain ⟨g, off, cp, e, hg, hcell, _⟩ := HD.out.row.at_ hjl
      injection e with e e2 e3
      subst e
      clear e2 e3
      obtain ⟨x, hx⟩ : ∃ x, x = c.ws[j] := ⟨_, rfl⟩
      rw [← hx] at hcell
      have HX : Hid (c.ws[j]? = some x) := Lib.hid (by rw [hx]; exact List.getElem?_eq_getElem hjl)
      clear hx
      obtain ⟨z1, z2, z3, z4, z5, z6, z7⟩ := x
      have k0 := hcell 0 _ rfl
      have k1 := hcell 1 _ rfl
      have k2 := hcell 2 _ rfl
      have k3 := hcell 3 _ rfl
      have k4 := hcell 4 _ rfl
      have k5 := hcell 5 _ rfl
      have k6 := hcell 6 _ rfl
      rw [Nat.add_zero] at k0
      have i0 : (0 : Int) ≤ (j : Int) := by omega
      have i1 : (j : Int) < (n : Int) := by omega
      have HLT := Lib.hid hlt
      have HTK := filter_take_succ Q c.ws j _ HX.out
      have HLN : Hid (((c.ws.take j).filter Q).length ≤ 64) := Lib.hid (Nat.le_trans (fil_len _ _ _) HN.out)
      obtain ⟨q, hq⟩ : ∃ q, q = (z1 != num) := ⟨_, rfl⟩
      have hq' := hq.symm
      have HTQ : Hid ((c.ws.take (j + 1)).filter Q = if q then (c.ws.take j).filter Q ++ [⟨z1, z2, z3, z4, z5, z6, z7⟩] else (c.ws.take j).filter Q) := Lib.hid (by
        rw [HTK, hq, HQ.out]
        by_cases e : z1 = num <;> simp [e])
      clear hcell hlt hj hjl hq HTK
      cases q with
      | false =>
        go_wp2_with fail
        go_roundw
        case rel => exact ⟨j + 1, pa, pc, by have := HLT.out; omega, by rw [HTQ.out]; rfl, next_int (by have := HN.out; have := HL.out; have := HLT.out; omega), Lib.hid ⟨HJ.out.1, by have := HJ.out.2.same (by rw [HTQ.out]; rfl); rw [HTQ.out]; exact this⟩⟩
        case measure => exact meas HLT.out (by have := HN.out; have := HL.out; omega)
      | true =>
        have HR := Lib.hid (rd_new wr [.int .i64 z1, .string z2, .int .i64 z3, .int .i64 z4, .int .i64 z5, .int .i64 z6, .bool z7] 43 1 7 rfl (by decide))
        go_wp2_with (first | (at_builtin; refine wpList_append_any rfl _ _ 48 rfl 43 Try.t43 Wt.zero.v 7 64 Try.underlying48 info43 t43_zero t43_size t43_bytes rfl (by decide) (.slice pa ((c.ws.take j).filter Q).length pc) ((c.ws.take j).filter Q).length (((c.ws.take j).filter Q).flatMap Wt.row) rfl (HJ.out.2.row.row.alloc _) (.slice (some ⟨wr.heap.size, 0, none⟩) 1 1) 1 [.int .i64 z1, .string z2, .int .i64 z3, .int .i64 z4, .int .i64 z5, .int .i64 z6, .bool z7] rfl HR.out (Wt.row_one ⟨z1, z2, z3, z4, z5, z6, z7⟩) (by have h1 := HLN.out; unfold maxLen; omega) (by have h1 := HLN.out; omega) ?_; intro v2 w5 hv2 hg2 hf2; obtain ⟨oa2, oc2, rfl, _, _⟩ := hv2.shape; have HY := Lib.hid (And.intro hv2 (And.intro hg2 hf2)); clear hv2 hg2 hf2))
        go_roundw
        case rel =>
          have e : (c.ws.take (j + 1)).filter Q = (c.ws.take j).filter Q ++ [⟨z1, z2, z3, z4, z5, z6, z7⟩] := by rw [HTQ.out]; rfl
          refine ⟨j + 1, oa2, oc2, by have := HLT.out; omega, by rw [e, List.length_append]; rfl, next_int (by have := HN.out; have := HL.out; have := HLT.out; omega), Lib.hid ⟨HJ.out.2.grew HJ.out.1 HY.out.2.1, ?_⟩⟩
          rw [e, List.length_append]
          exact FRow.push (rec := ⟨z1, z2, z3, z4, z5, z6, z7⟩) HJ.out.2 HJ.out.1.size e HY.out.1 HY.out.2.2
        case measure => exact meas HLT.out (by have := HN.out; have := HL.out; omega)
    · obtain rfl : j = n := by omega
      have CU := Lib.hid (C2.out.kept HJ.out.1 fun e => e)
      have CV := Lib.hid (CT.out.kept HJ.out.1 fun e => e)
      have XT : X < T := by have := H.out.cells.lt; have := HT.out; omega
      go_upto_region 9 with fail
      obtain ⟨w7, hw7⟩ : ∃ w7, w7 = wr.setCell ⟨X, 2, none⟩ (.slice pa ((c.ws.take j).filter Q).length pc) := ⟨_, rfl⟩
      have O7 : Hid (Only (fun q => q = X) wr w7) := Lib.hid (by rw [hw7]; exact (Only.refl (fun q => q = X) wr).setCell (p := ⟨X, 2, none⟩) rfl _)
      have HW7 := Lib.hid hw7
      have CU7 := Lib.hid (CU.out.kept O7.out fun e => by have := HUT.out; omega)
      have CV7 := Lib.hid (CV.out.kept O7.out fun e => by omega)
      have y0 := CU7.out.is 0 _ rfl
      have y1 := CU7.out.is 1 _ rfl
      have y2 := CU7.out.is 2 _ rfl
      have y3 := CU7.out.is 3 _ rfl
      have y4 := CU7.out.is 4 _ rfl
      have y5 := CU7.out.is 5 _ rfl
      have y6 := CU7.out.is 6 _ rfl
      have z0 := CV7.out.is 0 _ rfl
      have z1 := CV7.out.is 1 _ rfl
      have z2 := CV7.out.is 2 _ rfl
      have z3 := CV7.out.is 3 _ rfl
      have z4 := CV7.out.is 4 _ rfl
      have z5 := CV7.out.is 5 _ rfl
      have z6 := CV7.out.is 6 _ rfl
      have zf := CV7.out.thaw
      have zl := CV7.out.lt
      rw [← hw7]
      clear hw7 c0 c1 c2 cf cl
      go_wp2_with fail
      (try simp only [Exit.inBlock, Exit.then])
      refine bodyPost_ret (v := .tuple #[.agg #[.int .i64 x1, .string x2, .int .i64 x3, .int .i64 x4, .int .i64 x5, .int .i64 x6, .bool x7], .bool b]) ?_ rfl ⟨rfl, ?_⟩
      · rw [results_cell_tmp rfl]
        go_simp
      · have O7' := seven T w7 (.int .i64 x1) (.string x2) (.int .i64 x3) (.int .i64 x4) (.int .i64 x5) (.int .i64 x6) (.bool x7)
        rw [HW7.out] at O7' ⊢
        have hend : (c.ws.take j).filter Q = (c.told num).ws := by
          rw [List.take_of_length_le (by have := HL.out; omega), HQ.out]; rfl
        have hs2 := O02.out.size
        have hT2 := CT.out.lt
        refine docTo_fin H.out ((O02.out.trans HJ.out.1).mono fun _ _ e => e.elim) (c' := c.told num) HD.out.cells (by rw [← hend]; exact HJ.out.2.row) (fun g hg => Or.inr (Nat.le_trans hs2 (HJ.out.2.new g hg))) (HD.out.ok.told num) O7' fun q hq => ⟨by have := HT.out; omega, fun e => by have := HJ.out.2.new q e; omega⟩
end Go.Proofs.Ytehoiapadnbklaa
