/- The document's Due. -/
import Derived.Test.YtehoiapadnbklaaD4
namespace Go.Proofs.Ytehoiapadnbklaa
open Go.RowKit Go.Maps
set_option linter.unusedVariables false

/-- a fresh row under way -/
structure GRow (w wr : World) (l : List Wt) (v : Value) : Prop where
  row : WRow wr v l
  new : ∀ g, v.ownBlock = some g → w.heap.size ≤ g
section
variable {w wr y : World} {l : List Wt} {v v' : Value} {rec : Wt} {o : Obj} {S : Nat → Prop}
theorem GRow.zero (w wr : World) : GRow w wr [] (.slice none 0 0) := ⟨WRow.nil _, fun g hg => by cases hg⟩
theorem GRow.only (h : GRow w wr l v) (o : Only S wr y) (hn : ∀ g, v.ownBlock = some g → ¬ S g) : GRow w y l v := ⟨h.row.only o hn, h.new⟩
theorem GRow.push (h : GRow w wr l v) (hw : w.heap.size ≤ wr.heap.size) (hv : Vec y 7 v' (l.length + 1) (l.flatMap Wt.row ++ rec.row)) (hf : ∀ g, v'.ownBlock = some g → v.ownBlock = some g ∨ (wr.alloc o).heap.size ≤ g) : GRow w y (l ++ [rec]) v' := by
  have hsz : (wr.alloc o).heap.size = wr.heap.size + 1 := by simp
  refine ⟨⟨?_⟩, fun g hg => ?_⟩
  · rw [List.length_append, List.flatMap_append]
    simpa using hv
  · rcases hf g hg with h1 | h1
    · exact h.new g h1
    · omega
theorem GRow.grew (h : GRow w wr l v) (hg : (wr.alloc o).grownBy y v.ownBlock) : Only (fun g => w.heap.size ≤ g) wr y :=
  ((Only.refl (fun g => w.heap.size ≤ g) wr).alloc o).trans (((Only.refl (fun g => v.ownBlock = some g) (wr.alloc o)).grown hg fun g hg => hg).mono fun g _ e => h.new g e)
end
theorem Only.fresh {S : Nat → Prop} {w wr y : World} (h : Only S w wr) (o : Only (fun g => w.heap.size ≤ g) wr y) : Only S w y := h.trans2 o fun g hg e => by omega
theorem SLoop.fresh {w wr y : World} {lv : Value} {l : List Wt} {f : Wt → Wt} {j : Nat} (s : SLoop w wr lv l f j) (hl : ∀ g, lv.ownBlock = some g → g < w.heap.size) (o : Only (fun g => w.heap.size ≤ g) wr y) : SLoop w y lv l f j :=
  ⟨Only.fresh s.only o, s.row.only o fun g hg e => by have := hl g hg; omega⟩
theorem DocAt.own {w : World} {X : Nat} {lv : Value} {c : Cl} (h : DocAt w X lv c) : ∀ g, lv.ownBlock = some g → g < w.heap.size := fun g hg => h.row.row.lt hg

set_option maxRecDepth 20000 in
set_option maxHeartbeats 1000000 in
theorem ddue_any {w : World} {X : Nat} {lv : Value} {c : Cl} (h : DocAt w X lv c) (now every : Int) : Calls Try.prog 21 #[.pointer (some ⟨X, 0, none⟩), .int .i64 now, .int .i64 every] w fun e w' => ∃ v, e = .returned v ∧ GRow w w' ((c.ws.filter fun x => agoB x.last now every).map (Wt.at_ now)) v ∧ DocTo w w' X lv (c.due now every) := by
  obtain ⟨a, k, rfl⟩ := h.shape
  have H := Lib.hid h
  have HO := Lib.hid h.own
  have HN := Lib.hid h.ok.few
  obtain ⟨F, hF⟩ : ∃ F : Wt → Wt, F = fun y => if agoB y.last now every then y.at_ now else y := ⟨_, rfl⟩
  obtain ⟨Q, hQ⟩ : ∃ Q : Wt → Bool, Q = fun x => agoB x.last now every := ⟨_, rfl⟩
  have HF := Lib.hid hF
  have HQ := Lib.hid hQ
  have hmk : c.due now every = c.with_ (c.ws.map F) := by rw [hF]; rfl
  rw [hmk, ← hQ]
  clear hF hQ hmk
  obtain ⟨n, hn⟩ : ∃ n, n = c.ws.length := ⟨_, rfl⟩
  have HL := Lib.hid hn
  rw [← hn] at H HO ⊢
  clear h hn
  go_enter Try.func21, Try.ntmps21
  go_wp2_with fail
  go_loopw [7, 8] (fun t i wr => ∃ (j : Nat) (pa : Option Addr) (m pc : Nat), j ≤ n ∧ m = ((c.ws.take j).filter Q).length ∧ t = .slice pa m pc ∧ i = .int .i64 (j : Int) ∧ Hid (SLoop w wr (.slice a n k) c.ws F j ∧ GRow w wr (((c.ws.take j).filter Q).map (Wt.at_ now)) (.slice pa m pc))) (fun t i wr => n - (intOf i).toNat)
  case atStart => exact ⟨0, none, 0, 0, by omega, rfl, rfl, rfl, Lib.hid ⟨⟨Only.refl _ _, H.out.row⟩, GRow.zero _ _⟩⟩
  case round =>
    obtain ⟨j, pa, m, pc, hj, hm, rfl, rfl, HJ⟩ := hrel
    have HM := Lib.hid hm
    have HD := Lib.hid (HJ.out.1.doc H.out)
    have c2 := HD.out.is 2 _ rfl
    by_cases hlt : j < n
    · have hjl : j < c.ws.length := by have := HL.out; omega
      obtain ⟨x, hx⟩ : ∃ x, x = c.ws[j] := ⟨_, rfl⟩
      have HX : Hid (c.ws[j]? = some x) := Lib.hid (by rw [hx]; exact List.getElem?_eq_getElem hjl)
      have hst := stepRow_at F HX.out
      obtain ⟨hs1, hs2⟩ := List.getElem?_eq_some_iff.1 hst
      obtain ⟨g, off, cp, e, hg, hcell, hth⟩ := HJ.out.1.row.at_ hs1
      rw [hs2] at hcell
      injection e with e e2 e3
      subst e
      have f5 := hth 5 (by decide)
      clear e2 e3 hx hs2 hs1 hth
      obtain ⟨z1, z2, z3, z4, z5, z6, z7⟩ := x
      have k5 := hcell 5 _ rfl
      have i0 : (0 : Int) ≤ (j : Int) := by omega
      have i1 : (j : Int) < (n : Int) := by omega
      have HLT := Lib.hid hlt
      have HTK := filter_take_succ Q c.ws j _ HX.out
      have HLN : Hid (m ≤ 64) := Lib.hid (by rw [hm]; exact Nat.le_trans (fil_len _ _ _) HN.out)
      have HA := Lib.hid (dago_any z6 now every wr)
      obtain ⟨q, hq⟩ : ∃ q, q = agoB z6 now every := ⟨_, rfl⟩
      rw [← hq] at HA
      have HTQ : Hid ((c.ws.take (j + 1)).filter Q = if q then (c.ws.take j).filter Q ++ [⟨z1, z2, z3, z4, z5, z6, z7⟩] else (c.ws.take j).filter Q) := Lib.hid (by rw [HTK, HQ.out, hq])
      have HFX : Hid (F ⟨z1, z2, z3, z4, z5, z6, z7⟩ = if q then Wt.at_ now ⟨z1, z2, z3, z4, z5, z6, z7⟩ else ⟨z1, z2, z3, z4, z5, z6, z7⟩) := Lib.hid (by rw [HF.out, hq])
      clear hlt hj hjl hq HTK hst hm
      simp only at k5
      clear hcell
      go_wp2_with fail
      refine HA.out.mono ?_
      rintro e w' ⟨rfl, rfl⟩
      clear HA
      cases q with
      | false =>
        go_wp2_with fail
        go_roundw
        case rel => exact ⟨j + 1, pa, m, pc, by have := HLT.out; omega, by rw [HTQ.out]; exact HM.out, rfl, next_int (by have := HN.out; have := HL.out; have := HLT.out; omega), Lib.hid ⟨⟨HJ.out.1.only, by rw [stepRow_miss HX.out HFX.out]; exact HJ.out.1.row⟩, by rw [HTQ.out]; exact HJ.out.2⟩⟩
        case measure => exact meas HLT.out (by have := HN.out; have := HL.out; omega)
      | true =>
        go_upto_region 7 with fail
        obtain ⟨w3, hw3⟩ : ∃ w3, w3 = wr.setCell ⟨g, off + j * 7 + 5, none⟩ (.int .i64 now) := ⟨_, rfl⟩
        have O3 : Hid (Only (fun q => (Value.slice (some ⟨g, off, none⟩) n k).ownBlock = some q) wr w3) := Lib.hid (by rw [hw3]; exact (Only.refl (fun q => (Value.slice (some ⟨g, off, none⟩) n k).ownBlock = some q) wr).setCell (p := ⟨g, off + j * 7 + 5, none⟩) rfl _)
        have S3 : Hid (SLoop w w3 (.slice (some ⟨g, off, none⟩) n k) c.ws F (j + 1)) := Lib.hid ⟨HJ.out.1.only.trans O3.out, by
          rw [← stepRow_hit HX.out HFX.out, hw3]
          exact HJ.out.1.row.setLast (by rw [stepRow_length]; exact HL.out) (stepRow_at F HX.out) now⟩
        have G3 : Hid (GRow w w3 (((c.ws.take j).filter Q).map (Wt.at_ now)) (.slice pa m pc)) := Lib.hid (HJ.out.2.only O3.out fun g1 hg1 e => by have h1 := HJ.out.2.new g1 hg1; have h2 := HO.out g1 e; omega)
        have hxe : (stepRow F c.ws (j + 1))[j]? = some ⟨z1, z2, z3, z4, z5, now, z7⟩ := by
          rw [← stepRow_hit HX.out HFX.out, List.getElem?_set_self (by rw [stepRow_length]; have := HLT.out; have := HL.out; omega)]
          rfl
        obtain ⟨hs1, hs2⟩ := List.getElem?_eq_some_iff.1 hxe
        obtain ⟨g', off', cp', e', hg', hcell', _⟩ := S3.out.row.at_ hs1
        rw [hs2] at hcell'
        injection e' with e' e2 e3
        injection e' with e'
        injection e' with e4 e5
        subst e4
        subst e5
        have HD3 := Lib.hid (S3.out.doc H.out)
        have y2 := HD3.out.is 2 _ rfl
        have y0 := hcell' 0 _ rfl
        have y1 := hcell' 1 _ rfl
        have yy2 := hcell' 2 _ rfl
        have y3 := hcell' 3 _ rfl
        have y4 := hcell' 4 _ rfl
        have y5 := hcell' 5 _ rfl
        have y6 := hcell' 6 _ rfl
        rw [Nat.add_zero] at y0
        have HR := Lib.hid (rd_new w3 [.int .i64 z1, .string z2, .int .i64 z3, .int .i64 z4, .int .i64 z5, .int .i64 now, .bool z7] 43 1 7 rfl (by decide))
        have HGV := Lib.hid G3.out.row.row
        rw [List.length_map, ← HM.out] at HGV
        rw [← hw3]
        clear hw3 k5 f5 c2 hxe hs2 hs1 hcell' e2 e3
        go_wp2_with (first | (at_builtin; refine wpList_append_any rfl _ _ 48 rfl 43 Try.t43 Wt.zero.v 7 64 Try.underlying48 info43 t43_zero t43_size t43_bytes rfl (by decide) (.slice pa m pc) m ((((c.ws.take j).filter Q).map (Wt.at_ now)).flatMap Wt.row) rfl (HGV.out.alloc _) (.slice (some ⟨w3.heap.size, 0, none⟩) 1 1) 1 [.int .i64 z1, .string z2, .int .i64 z3, .int .i64 z4, .int .i64 z5, .int .i64 now, .bool z7] rfl HR.out (Wt.row_one ⟨z1, z2, z3, z4, z5, now, z7⟩) (by have h1 := HLN.out; unfold maxLen; omega) (by have h1 := HLN.out; omega) ?_; intro v2 w5 hv2 hg2 hf2; obtain ⟨oa2, oc2, rfl, _, _⟩ := hv2.shape; have HY := Lib.hid (And.intro hv2 (And.intro hg2 hf2)); clear hv2 hg2 hf2))
        go_roundw
        case rel =>
          have O5 := G3.out.grew HY.out.2.1
          refine ⟨j + 1, oa2, m + 1, oc2, by have := HLT.out; omega, by rw [HTQ.out, if_pos trivial, List.length_append, HM.out]; rfl, rfl, next_int (by have := HN.out; have := HL.out; have := HLT.out; omega), Lib.hid ⟨S3.out.fresh HO.out O5, ?_⟩⟩
          rw [HTQ.out, if_pos trivial, List.map_append]
          refine GRow.push (rec := ⟨z1, z2, z3, z4, z5, now, z7⟩) G3.out S3.out.only.size ?_ HY.out.2.2
          rw [List.length_map, ← HM.out]
          exact HY.out.1
        case measure => exact meas HLT.out (by have := HN.out; have := HL.out; omega)
    · obtain rfl : j = n := by omega
      have HE : Hid ((c.ws.take j).filter Q = c.ws.filter Q) := Lib.hid (by rw [List.take_of_length_le (by have := HL.out; omega)])
      go_wp2_with fail
      go_ret
      refine ⟨_, rfl, by rw [← HE.out]; exact HJ.out.2, HJ.out.1.done H.out HL.out fun y _ => ?_⟩
      rw [HF.out]
      simp only
      split <;> rfl
end Go.Proofs.Ytehoiapadnbklaa
