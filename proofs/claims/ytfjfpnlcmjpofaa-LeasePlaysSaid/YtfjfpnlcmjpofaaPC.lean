/- The document's Give. -/
import Derived.Test.YtfjfpnlcmjpofaaPB
namespace Go.Proofs.Ytfjfpnlcmjpofaa
open Go.RowKit Go.Maps Go.Sort Go.Shelf
set_option linter.unusedVariables false

set_option maxRecDepth 20000 in
theorem dgive_no {w : World} {X : Nat} {lv sv : Value} {t : Tb} (h : DocAt w X lv sv t) (key : ByteArray) (cache now : Int) {code : Int} (hc : t.giveCode key.data.toList now = code) (h0 : code ≠ 0) : Calls Try.prog 12 #[.pointer (some ⟨X, 0, none⟩), .string key, .int .i64 cache, .int .i64 now] w fun e w' => e = .returned (.tuple #[.int .i64 0, .int .i64 code]) ∧ w = w' := by
  have c1 := h.cells.is 1 _ rfl
  have c3 := h.cells.is 3 _ rfl
  have c5 := h.cells.is 5 _ rfl
  have HH := Lib.hid (has_any h.shut key)
  have r1 := h.ok.h1
  have r2 := h.ok.h2
  have r3 := h.ok.g
  obtain ⟨hd, hhd⟩ : ∃ a, a = t.hold := ⟨_, rfl⟩
  obtain ⟨gv, hgv⟩ : ∃ a, a = t.given := ⟨_, rfl⟩
  unfold Tb.giveCode at hc
  rw [← hhd] at c1 r1 r2 hc
  rw [← hgv] at c3 hc r3
  obtain ⟨a, k, rfl, _, _⟩ := h.shut.shape
  obtain ⟨n, hn⟩ : ∃ n, n = t.shut.length := ⟨_, rfl⟩
  rw [← hn] at c5 HH
  by_cases hcl : clockB now = false
  · rw [if_pos hcl] at hc
    unfold clockB at hcl
    subst hc
    clear h hhd hgv hn HH c1 c3 c5 r1 r2 r3 h0
    by_cases h1 : now < 0
    · clear hcl
      go_enter Try.func12, Try.ntmps12
      go_wp2_with fail
      go_ret2
      exact ⟨rfl, rfl⟩
    · have h2 : 2147483647 < now := by
        refine Classical.byContradiction fun h6 => ?_
        simp only [Bool.and_eq_false_iff, decide_eq_false_iff_not] at hcl
        omega
      clear hcl
      go_enter Try.func12, Try.ntmps12
      go_wp2_with fail
      go_ret2
      exact ⟨rfl, rfl⟩
  rw [if_neg hcl] at hc
  have hcl2 : 0 ≤ now ∧ now ≤ 2147483647 := by
    unfold clockB at hcl
    simpa using hcl
  obtain ⟨n1, n2⟩ := hcl2
  clear hcl
  by_cases hin : key.data.toList ∈ t.shut
  · rw [if_pos hin] at hc
    rw [decide_eq_true hin] at HH
    subst hc
    clear h hhd hgv hn c1 c3 r1 r2 r3 h0 hin
    go_enter Try.func12, Try.ntmps12
    go_wp2_with (go_at_call 28; refine (HH.out).mono ?_; rintro e w' ⟨rfl, rfl⟩)
    go_ret2
    exact ⟨rfl, rfl⟩
  rw [if_neg hin] at hc
  rw [decide_eq_false hin] at HH
  by_cases hg : gv = 1048575
  · rw [if_pos (Or.inl hg)] at hc
    subst hc
    have d1 : decide ((1048575 : Int) ≤ (gv : Int)) = true := by rw [decide_eq_true_eq]; omega
    have d1' : decide (1048575 ≤ gv) = true := by rw [decide_eq_true_eq]; omega
    clear h hhd hgv hn c1 r1 r2 r3 h0 hin hg
    go_enter Try.func12, Try.ntmps12
    go_wp2_with (go_at_call 28; refine (HH.out).mono ?_; rintro e w' ⟨rfl, rfl⟩)
    go_ret2
    exact ⟨rfl, rfl⟩
  · have d1 : decide ((1048575 : Int) ≤ (gv : Int)) = false := by rw [decide_eq_false_iff_not]; omega
    have d1' : decide (1048575 ≤ gv) = false := by rw [decide_eq_false_iff_not]; omega
    by_cases hc2 : clockB (now + hd) = false
    · rw [if_pos (Or.inr hc2)] at hc
      subst hc
      have h2 : 2147483647 < now + hd := by
        unfold clockB at hc2
        refine Classical.byContradiction fun h6 => ?_
        simp only [Bool.and_eq_false_iff, decide_eq_false_iff_not] at hc2
        omega
      clear h hhd hgv hn r3 h0 hin hg hc2
      go_enter Try.func12, Try.ntmps12
      go_wp2_with (go_at_call 28; refine (HH.out).mono ?_; rintro e w' ⟨rfl, rfl⟩)
      go_ret2
      exact ⟨rfl, rfl⟩
    · rw [if_neg (fun hh => hh.elim hg hc2)] at hc
      exact absurd hc.symm h0
theorem same_strP (a b : ByteArray) : (a.toList == b.toList) = decide (a = b) := by
  rw [Bool.eq_iff_iff, beq_iff_eq, decide_eq_true_eq]
  constructor
  · intro h
    rw [ByteArray.toList_eq, ByteArray.toList_eq] at h
    have := Array.toList_inj.1 h
    cases a; cases b; simp_all
  · rintro rfl; rfl
set_option maxRecDepth 20000 in
set_option maxHeartbeats 2000000 in
theorem dgive_go {w : World} {X : Nat} {lv sv : Value} {t : Tb} (h : DocAt w X lv sv t) (key : ByteArray) (cache now : Int) (hf : Fine key cache) (hc : t.giveCode key.data.toList now = 0) : Calls Try.prog 12 #[.pointer (some ⟨X, 0, none⟩), .string key, .int .i64 cache, .int .i64 now] w fun e w' => e = .returned (.tuple #[.int .i64 ((t.top + 1 : Nat) : Int), .int .i64 0]) ∧ ∃ lv', DocAt w' X lv' sv (t.gave key cache now) ∧ Only (fun k => k = X ∨ lv.ownBlock = some k) w w' ∧ ∀ g, lv'.ownBlock = some g → lv.ownBlock = some g ∨ w.heap.size ≤ g := by
  obtain ⟨h1, h2, h3, h4⟩ := t.code0 hc
  have HH := Lib.hid (has_any h.shut key)
  rw [decide_eq_false h2] at HH
  have OK := Lib.hid (h.ok.gave hf hc)
  have HLEN : Hid (t.ls.length ≤ 1048575) := Lib.hid (Nat.le_trans h.ok.few h.ok.g)
  have c0 := h.cells.is 0 _ rfl
  have c1 := h.cells.is 1 _ rfl
  have c3 := h.cells.is 3 _ rfl
  have c4 := h.cells.is 4 _ rfl
  have c5 := h.cells.is 5 _ rfl
  have fz := h.cells.thaw
  have hX := h.cells.lt
  have r1 := h.ok.h1
  have r2 := h.ok.h2
  have r3 := h.ok.g
  have r4 := h.ok.l1
  have r5 := h.ok.l2
  have n12 : 0 ≤ now ∧ now ≤ 2147483647 := by
    unfold clockB at h1
    simpa using h1
  obtain ⟨n1, n2⟩ := n12
  have n3 : now + t.hold ≤ 2147483647 := by
    unfold clockB at h4
    simp only [Bool.and_eq_true, decide_eq_true_eq] at h4
    exact h4.2
  have H := Lib.hid h
  have HTP : Hid (t.top = t.life * 1048576 + t.given) := Lib.hid rfl
  obtain ⟨m, hm⟩ : ∃ m, m = t.ls.length := ⟨_, rfl⟩
  have HM := Lib.hid hm
  obtain ⟨a, k, rfl, _, _⟩ := h.shut.shape
  obtain ⟨la, lk, rfl, _, _⟩ := h.row.shape
  obtain ⟨n, hn⟩ : ∃ n, n = t.shut.length := ⟨_, rfl⟩
  have hrow := h.row
  rw [← hm] at c4 H hrow
  rw [← hn] at c5 HH H
  have HROW := Lib.hid hrow
  obtain ⟨hd, hhd⟩ : ∃ b, b = t.hold := ⟨_, rfl⟩
  obtain ⟨gv, hgv⟩ : ∃ b, b = t.given := ⟨_, rfl⟩
  obtain ⟨lf, hlf⟩ : ∃ b, b = t.life := ⟨_, rfl⟩
  obtain ⟨tp, htp⟩ : ∃ b, b = t.top := ⟨_, rfl⟩
  have HN := Lib.hid (And.intro hhd (And.intro hgv (And.intro hlf htp)))
  have d1 : decide ((1048575 : Int) ≤ (gv : Int)) = false := by rw [decide_eq_false_iff_not]; omega
  have d1' : decide (1048575 ≤ gv) = false := by rw [decide_eq_false_iff_not]; omega
  rw [← hhd] at c1 r1 r2 n3
  rw [← hgv] at c3 r3
  rw [← hlf] at c0 r4 r5
  have g0 : (0 : Int) ≤ (gv : Int) := by omega
  have g1 : (gv : Int) ≤ 1048574 := by omega
  have l0 : (1 : Int) ≤ (lf : Int) := by omega
  have l1 : (lf : Int) ≤ 2047 := by omega
  rw [← hm, ← hn, ← htp]
  clear hm hn hhd hgv hlf htp h1 h2 h3 h4 h hc hf hrow r3 r4 r5
  go_enter Try.func12, Try.ntmps12
  go_wp2_with (go_at_call 28; refine (HH.out).mono ?_; rintro e w' ⟨rfl, rfl⟩)
  obtain ⟨w1, hw1⟩ : ∃ w1, w1 = w.setCell ⟨X, 3, none⟩ (.int .i64 ((gv : Int) + 1)) := ⟨_, rfl⟩
  have C1 : Hid (CellsR w1 X [.int .i64 (lf : Int), .int .i64 hd, .int .i64 t.start, .int .i64 ((gv : Int) + 1), .slice la m lk, .slice a n k]) := Lib.hid (by
    have := H.out.cells.set (i := 3) (by simp) (.int .i64 ((gv : Int) + 1))
    rw [← HN.out.1, ← HN.out.2.2.1, ← hw1] at this
    exact this)
  have O1 : Hid (Only (fun q => q = X) w w1) := Lib.hid (by rw [hw1]; exact (Only.refl (fun q => q = X) w).setCell (p := ⟨X, 3, none⟩) rfl _)
  have y0 := C1.out.is 0 _ rfl
  have y1 := C1.out.is 1 _ rfl
  have y3 := C1.out.is 3 _ rfl
  have y4 := C1.out.is 4 _ rfl
  have yf := C1.out.thaw
  have yl := C1.out.lt
  rw [← hw1]
  clear hw1 c0 c1 c3 c4 c5 fz d1 d1'
  have yn : X ≠ w1.heap.size := by omega
  go_region_held3 (fun w' => w'.cell? ⟨X, 0, none⟩ = some (.int .i64 (lf : Int)) ∧ w'.cell? ⟨X, 1, none⟩ = some (.int .i64 hd) ∧ w'.cell? ⟨X, 3, none⟩ = some (.int .i64 ((gv : Int) + 1))) (go_keep) (fail)
  rename_i hh
  clear hh
  rw [wrap_small (a := (lf : Int) * 1048576) (by omega) (by omega), wrap_small (a := (lf : Int) * 1048576 + ((gv : Int) + 1)) (by omega) (by omega), wrap_small (a := now + hd) (by omega) (by omega)]
  obtain ⟨w2, hw2⟩ : ∃ w2, w2 = (w1.alloc (.cells #[.string key, .int .i64 cache, .int .i64 ((lf : Int) * 1048576 + ((gv : Int) + 1)), .int .i64 (now + hd)] 66)).drew := ⟨_, rfl⟩
  obtain ⟨T, hT⟩ : ∃ T, T = w1.heap.size := ⟨_, rfl⟩
  have CT : Hid (CellsR w2 T [.string key, .int .i64 cache, .int .i64 ((lf : Int) * 1048576 + ((gv : Int) + 1)), .int .i64 (now + hd)]) := Lib.hid (by rw [hw2, hT]; exact (cells_new w1 [.string key, .int .i64 cache, .int .i64 ((lf : Int) * 1048576 + ((gv : Int) + 1)), .int .i64 (now + hd)] 66).kept (Only.refl None' _).drew fun e => e)
  have O2 : Hid (Only None' w1 w2) := Lib.hid (by rw [hw2]; exact ((Only.refl None' w1).alloc _).drew)
  have C2 := Lib.hid (C1.out.kept O2.out fun e => e)
  have HTX : Hid (T ≠ X ∧ w.heap.size ≤ T) := Lib.hid (by have := O1.out.size; omega)
  have hrow1 := HROW.out.only O1.out fun g hg e => H.out.apart.1 g hg e
  have HR2 := Lib.hid (hrow1.only O2.out fun _ _ e => e)
  rw [← hw2, ← hT]
  clear hw2 hT y0 y1 y3 y4 yf yl yn
  go_wp2_with fail
  go_loopw [11, 12] (fun p i wr => ∃ (j q : Nat) (pa : Option Addr) (pc : Nat), j ≤ m ∧ p = .slice pa q pc ∧ i = .int .i64 (j : Int) ∧ Hid (q = ((t.ls.take j).filter (fun y => !at_ key cache y)).length) ∧ Hid (GL w2 wr (.slice pa q pc) ((t.ls.take j).filter (fun y => !at_ key cache y)))) (fun p i wr => m - (intOf i).toNat)
  case atStart => exact ⟨0, 0, none, 0, by omega, rfl, rfl, Lib.hid rfl, Lib.hid (GL.start _)⟩
  case round =>
    obtain ⟨j, q, pa, pc, hj, rfl, rfl, HQ, HJ⟩ := hrel
    have CW := Lib.hid (C2.out.kept HJ.out.only fun e => e)
    have c4 := CW.out.is 4 _ rfl
    have HQN : Hid (q ≤ 1048575) := Lib.hid (by rw [HQ.out]; exact Nat.le_trans (List.length_filter_le _ _) (Nat.le_trans (List.length_take_le' j _) HLEN.out))
    have HML : Hid (m ≤ maxLen) := Lib.hid (by have h1 := HM.out; have h2 := HLEN.out; unfold maxLen; omega)
    by_cases hlt : j < m
    · have hjl : j < t.ls.length := by have := HM.out; omega
      have hv := HR2.out.only HJ.out.only fun _ _ e => e
      obtain ⟨ga, offa, rfl, hga, hcell, _⟩ := hv.form' (by omega)
      obtain ⟨x, hx⟩ : ∃ x, x = t.ls[j] := ⟨_, rfl⟩
      have hcell2 : ∀ i u, (Ls.row x)[i]? = some u → wr.cell? ⟨ga, offa + j * 4 + i, none⟩ = some u := fun i u h => by
        rw [hx] at h
        have := hcell (j * 4 + i) u (flat_at Ls.row 4 t.ls j (fun y _ => rfl) hjl i u h)
        rwa [← Nat.add_assoc] at this
      have HX : Hid (t.ls[j]? = some x) := Lib.hid (by rw [hx]; exact List.getElem?_eq_getElem hjl)
      clear hx hcell
      obtain ⟨x0, x1, x2, x3⟩ := x
      have q0 := hcell2 0 _ rfl
      have q1 := hcell2 1 _ rfl
      have q2 := hcell2 2 _ rfl
      have q3 := hcell2 3 _ rfl
      rw [Nat.add_zero] at q0
      simp only at q0 q1 q2 q3
      have i0 : (0 : Int) ≤ (j : Int) := by omega
      have i1 : (j : Int) < (m : Int) := by omega
      have HLT := Lib.hid hlt
      have HGV := Lib.hid HJ.out.row
      rw [← HQ.out] at HGV
      clear hj hlt hjl hv hga hcell2
      by_cases e1 : x0 = key
      · have b1 : (x0.toList == key.toList) = true := by rw [same_strP, decide_eq_true_eq]; exact e1
        by_cases e2 : x1 = cache
        · have b2 : (x1 == cache) = true := by simpa using e2
          have HPX : Hid (¬ (fun y => !at_ key cache y) (⟨x0, x1, x2, x3⟩ : Ls) = true) := Lib.hid (by simp [at_, e1, e2])
          clear e1 e2
          go_wp2_with fail
          go_roundw
          case rel => exact ⟨j + 1, q, pa, pc, by have := HLT.out; omega, rfl, next_len HLT.out HML.out, Lib.hid (by rw [take_next HX.out, if_neg HPX.out, List.append_nil, HQ.out]), Lib.hid (by rw [take_next HX.out, if_neg HPX.out, List.append_nil]; exact HJ.out)⟩
          case measure => exact meas_len HLT.out HML.out
        · have b2 : (x1 == cache) = false := by simpa using e2
          have HPX : Hid ((fun y => !at_ key cache y) (⟨x0, x1, x2, x3⟩ : Ls) = true) := Lib.hid (by simp [at_, e1, e2])
          clear e1 e2
          go_wp2_with (first | (at_builtin; refine wpList_append_any rfl _ _ 41 rfl 66 Try.t66 Ls.zero.v 4 40 under41 info66 t66_zero t66_size t66_bytes rfl (by decide) (.slice pa q pc) q (((t.ls.take j).filter (fun y => !at_ key cache y)).flatMap Ls.row) rfl (HGV.out.alloc _) (.slice (some ⟨wr.heap.size, 0, none⟩) 1 1) 1 [.string x0, .int .i64 x1, .int .i64 x2, .int .i64 x3] rfl (rd_new wr [.string x0, .int .i64 x1, .int .i64 x2, .int .i64 x3] 66 1 4 rfl (by decide)) (Ls.row_one ⟨x0, x1, x2, x3⟩) (by have h1 := HQN.out; unfold maxLen; omega) (by have h1 := HQN.out; omega) ?_; intro v2 w6 hv2 hg2 hf2; obtain ⟨oa2, oc2, rfl, _, _⟩ := hv2.shape; have HY := Lib.hid (And.intro hv2 (And.intro hg2 hf2)); clear hv2 hg2 hf2))
          go_roundw
          case rel =>
            refine ⟨j + 1, q + 1, oa2, oc2, by have := HLT.out; omega, rfl, next_len HLT.out HML.out, Lib.hid (by rw [take_next HX.out, if_pos HPX.out, List.length_append, HQ.out]; rfl), Lib.hid ?_⟩
            rw [take_next HX.out, if_pos HPX.out]
            exact GL.push (x := ⟨x0, x1, x2, x3⟩) HJ.out (by rw [← HQ.out]; exact HY.out.1) HY.out.2.1 HY.out.2.2
          case measure => exact meas_len HLT.out HML.out
      · have b1 : (x0.toList == key.toList) = false := by rw [same_strP, decide_eq_false_iff_not]; exact e1
        have HPX : Hid ((fun y => !at_ key cache y) (⟨x0, x1, x2, x3⟩ : Ls) = true) := Lib.hid (by simp [at_, e1])
        clear e1
        go_wp2_with (first | (at_builtin; refine wpList_append_any rfl _ _ 41 rfl 66 Try.t66 Ls.zero.v 4 40 under41 info66 t66_zero t66_size t66_bytes rfl (by decide) (.slice pa q pc) q (((t.ls.take j).filter (fun y => !at_ key cache y)).flatMap Ls.row) rfl (HGV.out.alloc _) (.slice (some ⟨wr.heap.size, 0, none⟩) 1 1) 1 [.string x0, .int .i64 x1, .int .i64 x2, .int .i64 x3] rfl (rd_new wr [.string x0, .int .i64 x1, .int .i64 x2, .int .i64 x3] 66 1 4 rfl (by decide)) (Ls.row_one ⟨x0, x1, x2, x3⟩) (by have h1 := HQN.out; unfold maxLen; omega) (by have h1 := HQN.out; omega) ?_; intro v2 w6 hv2 hg2 hf2; obtain ⟨oa2, oc2, rfl, _, _⟩ := hv2.shape; have HY := Lib.hid (And.intro hv2 (And.intro hg2 hf2)); clear hv2 hg2 hf2))
        go_roundw
        case rel =>
          refine ⟨j + 1, q + 1, oa2, oc2, by have := HLT.out; omega, rfl, next_len HLT.out HML.out, Lib.hid (by rw [take_next HX.out, if_pos HPX.out, List.length_append, HQ.out]; rfl), Lib.hid ?_⟩
          rw [take_next HX.out, if_pos HPX.out]
          exact GL.push (x := ⟨x0, x1, x2, x3⟩) HJ.out (by rw [← HQ.out]; exact HY.out.1) HY.out.2.1 HY.out.2.2
        case measure => exact meas_len HLT.out HML.out
    · obtain rfl : j = m := by omega
      have HE : Hid ((t.ls.take j).filter (fun y => !at_ key cache y) = t.ls.filter (fun y => !at_ key cache y)) := Lib.hid (by rw [List.take_of_length_le (by have := HM.out; omega)])
      have CTW := Lib.hid (CT.out.kept HJ.out.only fun e => e)
      have t0 := CTW.out.is 0 _ rfl
      have t1 := CTW.out.is 1 _ rfl
      have t2 := CTW.out.is 2 _ rfl
      have t3 := CTW.out.is 3 _ rfl
      have HGV := Lib.hid HJ.out.row
      rw [← HQ.out] at HGV
      clear hj hlt
      go_wp2_with (first | (at_builtin; refine wpList_append_any rfl _ _ 41 rfl 66 Try.t66 Ls.zero.v 4 40 under41 info66 t66_zero t66_size t66_bytes rfl (by decide) (.slice pa q pc) q (((t.ls.take j).filter (fun y => !at_ key cache y)).flatMap Ls.row) rfl (HGV.out.alloc _) (.slice (some ⟨wr.heap.size, 0, none⟩) 1 1) 1 [.string key, .int .i64 cache, .int .i64 ((lf : Int) * 1048576 + ((gv : Int) + 1)), .int .i64 (now + hd)] rfl (rd_new wr [.string key, .int .i64 cache, .int .i64 ((lf : Int) * 1048576 + ((gv : Int) + 1)), .int .i64 (now + hd)] 66 1 4 rfl (by decide)) (Ls.row_one ⟨key, cache, (lf : Int) * 1048576 + ((gv : Int) + 1), now + hd⟩) (by have h1 := HQN.out; unfold maxLen; omega) (by have h1 := HQN.out; omega) ?_; intro v2 w5 hv2 hg2 hf2; obtain ⟨oa2, oc2, rfl, _, _⟩ := hv2.shape; have HY := Lib.hid (GL.push (x := ⟨key, cache, (lf : Int) * 1048576 + ((gv : Int) + 1), now + hd⟩) HJ.out (by rw [← HQ.out]; exact hv2) hg2 hf2); have C5 := Lib.hid (C2.out.kept HY.out.only fun e => e); have CT5 := Lib.hid (CT.out.kept HY.out.only fun e => e); have yf := C5.out.thaw; have yl := C5.out.lt; have y4 := C5.out.is 4 _ rfl; have z2 := CT5.out.is 2 _ rfl; have zn : T ≠ X := HTX.out.1; clear hv2 hg2 hf2 t0 t1 t2 t3 c4))
      go_ret2
      have hgl := HY.out
      rw [HE.out] at hgl
      have hls : (t.gave key cache now).ls = t.ls.filter (fun y => !at_ key cache y) ++ [⟨key, cache, (lf : Int) * 1048576 + ((gv : Int) + 1), now + hd⟩] := by
        have e10 : ((t.life * 1048576 + t.given + 1 : Nat) : Int) = (t.life : Int) * 1048576 + ((t.given : Int) + 1) := by omega
        have hnew : t.new key cache now = ⟨key, cache, (lf : Int) * 1048576 + ((gv : Int) + 1), now + hd⟩ := by
          unfold Tb.new
          rw [HN.out.1, HN.out.2.1, HN.out.2.2.1, e10]
        show give t.ls (t.new key cache now) = _
        rw [hnew]
        rfl
      have hf3 : ∀ g, (Value.slice oa2 (q + 1) oc2).ownBlock = some g → (Value.slice la j lk).ownBlock = some g ∨ w.heap.size ≤ g := fun g hg => Or.inr (Nat.le_trans (Nat.le_trans O1.out.size O2.out.size) (hgl.fresh g hg))
      have hp := docAt_put4 (t' := t.gave key cache now) H.out (((O1.out.mono fun _ _ e => Or.inl e).trans (O2.out.mono fun _ _ e => e.elim)).trans (hgl.only.mono fun _ _ e => e.elim)) (lo := .slice la j lk) (lv' := .slice oa2 (q + 1) oc2) (by
        have h5 := C5.out
        rw [HN.out.1, HN.out.2.1, HN.out.2.2.1] at h5
        exact h5) (by
        rw [hls]
        have := hgl.row
        exact this) hf3 rfl rfl OK.out
      refine ⟨?_, _, hp.1, hp.2, hf3⟩
      have e9 : (lf : Int) * 1048576 + ((gv : Int) + 1) = ((tp + 1 : Nat) : Int) := by
        have h1 := HN.out
        have h2 := HTP.out
        omega
      rw [← e9]
      rfl
end Go.Proofs.Ytfjfpnlcmjpofaa
