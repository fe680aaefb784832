/- The document's Old. -/
import Derived.Test.YtehoiapadnbklaaD5
namespace Go.Proofs.Ytehoiapadnbklaa
open Go.RowKit Go.Maps
set_option linter.unusedVariables false

structure OLoop (w wr : World) (l1 l2 : List Wt) (v1 v2 : Value) : Prop where
  only : Only None' w wr
  a : GRow w wr l1 v1
  b : GRow w wr l2 v2
  apart : ∀ g, v1.ownBlock = some g → v2.ownBlock ≠ some g
theorem OLoop.swap {w wr : World} {l1 l2 : List Wt} {v1 v2 : Value} (h : OLoop w wr l1 l2 v1 v2) : OLoop w wr l2 l1 v2 v1 := ⟨h.only, h.b, h.a, fun g hg e => h.apart g e hg⟩
theorem OLoop.push {w wr y : World} {l1 l2 : List Wt} {v1 v2 v' : Value} {rec : Wt} {o : Obj} (h : OLoop w wr l1 l2 v1 v2) (hv : Vec y 7 v' (l1.length + 1) (l1.flatMap Wt.row ++ rec.row)) (hg : (wr.alloc o).grownBy y v1.ownBlock) (hf : ∀ g, v'.ownBlock = some g → v1.ownBlock = some g ∨ (wr.alloc o).heap.size ≤ g) : OLoop w y (l1 ++ [rec]) l2 v' v2 := by
  have og : Only (fun g => v1.ownBlock = some g) (wr.alloc o) y := (Only.refl _ _).grown hg fun g hg => hg
  have oa : Only None' wr (wr.alloc o) := (Only.refl _ _).alloc o
  have hsz : (wr.alloc o).heap.size = wr.heap.size + 1 := by simp
  refine ⟨Only.fresh h.only (h.a.grew hg), h.a.push h.only.size hv hf, (h.b.only oa fun _ _ e => e).only og fun g hg e => h.apart g e hg, fun g hg e => ?_⟩
  rcases hf g hg with h1 | h1
  · exact h.apart g h1 e
  · have := h.b.row.row.lt e; omega

set_option maxRecDepth 20000 in
set_option maxHeartbeats 1000000 in
theorem dold_any {w : World} {X : Nat} {lv : Value} {c : Cl} (h : DocAt w X lv c) (now most : Int) : Calls Try.prog 23 #[.pointer (some ⟨X, 0, none⟩), .int .i64 now, .int .i64 most] w fun e w' => ∃ v, e = .returned v ∧ GRow w w' (c.ws.filter fun x => agoB x.first now most) v ∧ DocTo w w' X lv (c.old now most) := by
  obtain ⟨a, k, rfl⟩ := h.shape
  have H := Lib.hid h
  have HN := Lib.hid h.ok.few
  obtain ⟨Q, hQ⟩ : ∃ Q : Wt → Bool, Q = fun x => agoB x.first now most := ⟨_, rfl⟩
  obtain ⟨R, hR⟩ : ∃ R : Wt → Bool, R = fun x => !agoB x.first now most := ⟨_, rfl⟩
  have HQ := Lib.hid hQ
  have HR := Lib.hid hR
  have hmk : c.old now most = c.with_ (c.ws.filter R) := by rw [hR]; rfl
  rw [hmk, ← hQ]
  clear hR hQ hmk
  obtain ⟨n, hn⟩ : ∃ n, n = c.ws.length := ⟨_, rfl⟩
  have HL := Lib.hid hn
  rw [← hn] at H ⊢
  clear h hn
  go_enter Try.func23, Try.ntmps23
  go_wp2_with fail
  go_loopw [7, 8, 9] (fun s t i wr => ∃ (j : Nat) (pa qa : Option Addr) (m r pc qc : Nat), j ≤ n ∧ m = ((c.ws.take j).filter Q).length ∧ r = ((c.ws.take j).filter R).length ∧ s = .slice pa m pc ∧ t = .slice qa r qc ∧ i = .int .i64 (j : Int) ∧ Hid (OLoop w wr ((c.ws.take j).filter Q) ((c.ws.take j).filter R) (.slice pa m pc) (.slice qa r qc))) (fun s t i wr => n - (intOf i).toNat)
  case atStart => exact ⟨0, none, none, 0, 0, 0, 0, by omega, rfl, rfl, rfl, rfl, rfl, Lib.hid ⟨Only.refl _ _, GRow.zero _ _, GRow.zero _ _, fun g hg => by cases hg⟩⟩
  case round =>
    obtain ⟨j, pa, qa, m, r, pc, qc, hj, hm, hr, rfl, rfl, rfl, HJ⟩ := hrel
    have HM := Lib.hid (And.intro hm hr)
    have HD := Lib.hid (H.out.new HJ.out.only)
    have c2 := HD.out.cells.is 2 _ rfl
    have cf := HD.out.cells.thaw
    have cl := HD.out.cells.lt
    by_cases hlt : j < n
    · have hjl : j < c.ws.length := by have := HL.out; omega
      obtain ⟨g, off, cp, e, hg, hcell, _⟩ := HD.out.row.at_ hjl
      injection e with e e2 e3
      subst e
      clear e2 e3
      obtain ⟨x, hx⟩ : ∃ x, x = c.ws[j] := ⟨_, rfl⟩
      rw [← hx] at hcell
      have HX : Hid (c.ws[j]? = some x) := Lib.hid (by rw [hx]; exact List.getElem?_eq_getElem hjl)
      clear hx
      obtain ⟨z1, z2, z3, z4, z5, z6, z7⟩ := x
      have k0 := hcell 0 _ rfl
      have k1 := hcell 1 _ rfl
      have k2 := hcell 2 _ rfl
      have k3 := hcell 3 _ rfl
      have k4 := hcell 4 _ rfl
      have k5 := hcell 5 _ rfl
      have k6 := hcell 6 _ rfl
      rw [Nat.add_zero] at k0
      simp only at k0 k1 k2 k3 k4 k5 k6
      have i0 : (0 : Int) ≤ (j : Int) := by omega
      have i1 : (j : Int) < (n : Int) := by omega
      have HLT := Lib.hid hlt
      have HTK := filter_take_succ Q c.ws j _ HX.out
      have HTL := filter_take_succ R c.ws j _ HX.out
      have HLN : Hid (m ≤ 64 ∧ r ≤ 64) := Lib.hid ⟨by rw [hm]; exact Nat.le_trans (fil_len _ _ _) HN.out, by rw [hr]; exact Nat.le_trans (fil_len _ _ _) HN.out⟩
      have HA := Lib.hid (dago_any z5 now most wr)
      obtain ⟨q, hq⟩ : ∃ q, q = agoB z5 now most := ⟨_, rfl⟩
      rw [← hq] at HA
      have HTQ : Hid ((c.ws.take (j + 1)).filter Q = if q then (c.ws.take j).filter Q ++ [⟨z1, z2, z3, z4, z5, z6, z7⟩] else (c.ws.take j).filter Q) := Lib.hid (by rw [HTK, HQ.out, hq])
      have HTR : Hid ((c.ws.take (j + 1)).filter R = if q then (c.ws.take j).filter R else (c.ws.take j).filter R ++ [⟨z1, z2, z3, z4, z5, z6, z7⟩]) := Lib.hid (by rw [HTL, HR.out, hq]; cases hb : agoB z5 now most <;> simp [hb])
      clear hlt hj hjl hq HTK HTL hm hr hcell
      have HNW := Lib.hid (rd_new wr [.int .i64 z1, .string z2, .int .i64 z3, .int .i64 z4, .int .i64 z5, .int .i64 z6, .bool z7] 43 1 7 rfl (by decide))
      have HVA := Lib.hid HJ.out.a.row.row
      rw [← HM.out.1] at HVA
      have HVB := Lib.hid HJ.out.b.row.row
      rw [← HM.out.2] at HVB
      go_wp2_with fail
      refine HA.out.mono ?_
      rintro e w' ⟨rfl, rfl⟩
      clear HA
      cases q with
      | false =>
        go_wp2_with (first | (at_builtin; refine wpList_append_any rfl _ _ 48 rfl 43 Try.t43 Wt.zero.v 7 64 Try.underlying48 info43 t43_zero t43_size t43_bytes rfl (by decide) (.slice qa r qc) r (((c.ws.take j).filter R).flatMap Wt.row) rfl (HVB.out.alloc _) (.slice (some ⟨wr.heap.size, 0, none⟩) 1 1) 1 [.int .i64 z1, .string z2, .int .i64 z3, .int .i64 z4, .int .i64 z5, .int .i64 z6, .bool z7] rfl HNW.out (Wt.row_one ⟨z1, z2, z3, z4, z5, z6, z7⟩) (by have h1 := HLN.out; unfold maxLen; omega) (by have h1 := HLN.out; omega) ?_; intro v2 w5 hv2 hg2 hf2; obtain ⟨oa2, oc2, rfl, _, _⟩ := hv2.shape; have HY := Lib.hid (And.intro hv2 (And.intro hg2 hf2)); clear hv2 hg2 hf2))
        go_roundw
        case rel =>
          refine ⟨j + 1, pa, oa2, m, r + 1, pc, oc2, by have := HLT.out; omega, by rw [HTQ.out]; exact HM.out.1, by rw [HTR.out]; simp [HM.out.2], rfl, rfl, next_int (by have := HN.out; have := HL.out; have := HLT.out; omega), Lib.hid ?_⟩
          have e1 : (c.ws.take (j + 1)).filter Q = (c.ws.take j).filter Q := by rw [HTQ.out]; rfl
          have e2 : (c.ws.take (j + 1)).filter R = (c.ws.take j).filter R ++ [⟨z1, z2, z3, z4, z5, z6, z7⟩] := by rw [HTR.out]; rfl
          rw [e1, e2]
          refine (OLoop.push (rec := ⟨z1, z2, z3, z4, z5, z6, z7⟩) HJ.out.swap ?_ HY.out.2.1 HY.out.2.2).swap
          rw [← HM.out.2]
          exact HY.out.1
        case measure => exact meas HLT.out (by have := HN.out; have := HL.out; omega)
      | true =>
        go_wp2_with (first | (at_builtin; refine wpList_append_any rfl _ _ 48 rfl 43 Try.t43 Wt.zero.v 7 64 Try.underlying48 info43 t43_zero t43_size t43_bytes rfl (by decide) (.slice pa m pc) m (((c.ws.take j).filter Q).flatMap Wt.row) rfl (HVA.out.alloc _) (.slice (some ⟨wr.heap.size, 0, none⟩) 1 1) 1 [.int .i64 z1, .string z2, .int .i64 z3, .int .i64 z4, .int .i64 z5, .int .i64 z6, .bool z7] rfl HNW.out (Wt.row_one ⟨z1, z2, z3, z4, z5, z6, z7⟩) (by have h1 := HLN.out; unfold maxLen; omega) (by have h1 := HLN.out; omega) ?_; intro v2 w5 hv2 hg2 hf2; obtain ⟨oa2, oc2, rfl, _, _⟩ := hv2.shape; have HY := Lib.hid (And.intro hv2 (And.intro hg2 hf2)); clear hv2 hg2 hf2))
        go_roundw
        case rel =>
          refine ⟨j + 1, oa2, qa, m + 1, r, oc2, qc, by have := HLT.out; omega, by rw [HTQ.out, if_pos trivial, List.length_append, HM.out.1]; rfl, by rw [HTR.out, if_pos trivial]; exact HM.out.2, rfl, rfl, next_int (by have := HN.out; have := HL.out; have := HLT.out; omega), Lib.hid ?_⟩
          rw [HTQ.out, HTR.out, if_pos trivial, if_pos trivial]
          refine OLoop.push (rec := ⟨z1, z2, z3, z4, z5, z6, z7⟩) HJ.out ?_ HY.out.2.1 HY.out.2.2
          rw [← HM.out.1]
          exact HY.out.1
        case measure => exact meas HLT.out (by have := HN.out; have := HL.out; omega)
    · obtain rfl : j = n := by omega
      clear hm hr
      have HE1 : Hid ((c.ws.take j).filter Q = c.ws.filter Q) := Lib.hid (by rw [List.take_of_length_le (by have := HL.out; omega)])
      have HE2 : Hid ((c.ws.take j).filter R = c.ws.filter R) := Lib.hid (by rw [List.take_of_length_le (by have := HL.out; omega)])
      go_wp2_with fail
      go_ret
      have hs := HJ.out.only.size
      refine ⟨_, rfl, ?_, ?_⟩
      · rw [← HE1.out]
        refine HJ.out.a.only ((Only.refl (fun q => q = X) wr).setCell (p := ⟨X, 2, none⟩) rfl _) fun g hg e => ?_
        have := HJ.out.a.new g hg
        have := H.out.cells.lt
        omega
      · refine docTo_store H.out (HJ.out.only.mono fun _ _ e => e.elim) (c' := c.with_ (c.ws.filter R)) HD.out.cells (by rw [show (c.with_ (c.ws.filter R)).ws = c.ws.filter R from rfl, ← HE2.out]; exact HJ.out.b.row) (fun g hg => Or.inr (HJ.out.b.new g hg)) (HD.out.ok.filter R)
end Go.Proofs.Ytehoiapadnbklaa
