/- The document's Look, Tell. -/
import Derived.Test.YtehoiapadnbklaaD1
namespace Go.Proofs.Ytehoiapadnbklaa
open Go.RowKit Go.Maps
set_option linter.unusedVariables false

/-- none of the first k is asked for -/
def NotYet (c : Cl) (n : Int) (k : Nat) : Prop := ∀ (j : Nat) x, c.ws[j]? = some x → j < k → x.req ≠ n
theorem NotYet.zero {c : Cl} {n : Int} : NotYet c n 0 := fun j x _ h => absurd h (Nat.not_lt_zero _)
theorem NotYet.succ {c : Cl} {n : Int} {k : Nat} {x : Wt} (h : NotYet c n k) (hk : c.ws[k]? = some x) (e : x.req ≠ n) : NotYet c n (k + 1) := by
  intro j y hj h2
  by_cases ej : j = k
  · subst ej
    rw [hk] at hj
    injection hj with hj
    subst hj
    exact e
  · exact h j y hj (by omega)
theorem NotYet.find {c : Cl} {n : Int} {k : Nat} {x : Wt} (h : NotYet c n k) (hk : c.ws[k]? = some x) (e : x.req = n) : c.find n = some x := by
  unfold Cl.find
  rw [List.find?_eq_some_iff_getElem]
  obtain ⟨hk', rfl⟩ := List.getElem?_eq_some_iff.1 hk
  refine ⟨by simpa using e, k, hk', rfl, fun j hj => ?_⟩
  have := h j _ (List.getElem?_eq_getElem (by omega)) hj
  simpa using this
theorem NotYet.none {c : Cl} {n : Int} (h : NotYet c n c.ws.length) : c.find n = none := by
  unfold Cl.find
  refine find_none fun x hx => ?_
  obtain ⟨j, hj, rfl⟩ := List.getElem_of_mem hx
  exact h j _ (List.getElem?_eq_getElem hj) hj
set_option maxRecDepth 20000 in
set_option maxHeartbeats 1000000 in
theorem dlook_any {w : World} {X : Nat} {lv : Value} {c : Cl} (h : DocAt w X lv c) (num : Int) : Calls Try.prog 15 #[.pointer (some ⟨X, 0, none⟩), .int .i64 num] w fun e w' => e = .returned (.tuple #[((c.find num).getD Wt.zero).v, .bool (c.find num).isSome]) ∧ Only None' w w' := by
  obtain ⟨a, k, rfl⟩ := h.shape
  have H := Lib.hid h
  have HN := Lib.hid h.ok.few
  obtain ⟨n, hn⟩ : ∃ n, n = c.ws.length := ⟨_, rfl⟩
  have HL := Lib.hid hn
  rw [← hn] at H
  clear h hn
  go_enter Try.func15, Try.ntmps15
  go_wp2_with fail
  obtain ⟨w1, hw1⟩ : ∃ w1, w1 = w.alloc (.cells #[.int .i64 0, .string ⟨#[]⟩, .int .i64 0, .int .i64 0, .int .i64 0, .int .i64 0, .bool false] 43) := ⟨_, rfl⟩
  obtain ⟨T, hT⟩ : ∃ T, T = w.heap.size := ⟨_, rfl⟩
  have O1 : Hid (Only None' w w1) := Lib.hid (by rw [hw1]; exact (Only.refl None' w).alloc _)
  have H1 := Lib.hid (H.out.new O1.out)
  have CT : Hid (CellsR w1 T [.int .i64 0, .string ⟨#[]⟩, .int .i64 0, .int .i64 0, .int .i64 0, .int .i64 0, .bool false]) := Lib.hid (by rw [hw1, hT]; exact cells_new w [.int .i64 0, .string ⟨#[]⟩, .int .i64 0, .int .i64 0, .int .i64 0, .int .i64 0, .bool false] 43)
  have HT := Lib.hid hT
  have c2 := H1.out.cells.is 2 _ rfl
  have t0 := CT.out.is 0 _ rfl
  have t1 := CT.out.is 1 _ rfl
  have t2 := CT.out.is 2 _ rfl
  have t3 := CT.out.is 3 _ rfl
  have t4 := CT.out.is 4 _ rfl
  have t5 := CT.out.is 5 _ rfl
  have t6 := CT.out.is 6 _ rfl
  have tf := CT.out.thaw
  have tl := CT.out.lt
  rw [← hw1, ← hT]
  clear hw1 hT
  go_loopw [6] (fun i wr => ∃ j : Nat, j ≤ n ∧ i = .int .i64 (j : Int) ∧ Hid (NotYet c num j) ∧ wr = w1) (fun i wr => n - (intOf i).toNat)
  case atStart => exact ⟨0, by omega, rfl, Lib.hid NotYet.zero, rfl⟩
  case round =>
    obtain ⟨j, hj, rfl, HJ, rfl⟩ := hrel
    by_cases hlt : j < n
    · have hjl : j < c.ws.length := by have := HL.out; omega
      obtain ⟨g, off, cp, e, hg, hcell, _⟩ := H1.out.row.at_ hjl
      injection e with e e2 e3
      subst e
      clear e2 e3
      obtain ⟨x, hx⟩ : ∃ x, x = c.ws[j] := ⟨_, rfl⟩
      rw [← hx] at hcell
      have HX : Hid (c.ws[j]? = some x) := Lib.hid (by rw [hx]; exact List.getElem?_eq_getElem hjl)
      clear hx
      obtain ⟨x1, x2, x3, x4, x5, x6, x7⟩ := x
      have k0 := hcell 0 _ rfl
      have k1 := hcell 1 _ rfl
      have k2 := hcell 2 _ rfl
      have k3 := hcell 3 _ rfl
      have k4 := hcell 4 _ rfl
      have k5 := hcell 5 _ rfl
      have k6 := hcell 6 _ rfl
      rw [Nat.add_zero] at k0
      have i0 : (0 : Int) ≤ (j : Int) := by omega
      have i1 : (j : Int) < (n : Int) := by omega
      have HLT := Lib.hid hlt
      obtain ⟨b, hb⟩ : ∃ b, b = (x1 == num) := ⟨_, rfl⟩
      have HB := Lib.hid hb
      have hb' := hb.symm
      clear hcell hlt hj hjl hb
      cases b with
      | true =>
        have e1 : x1 = num := by have := HB.out; simpa using this.symm
        have HFD : Hid (c.find num = some ⟨x1, x2, x3, x4, x5, x6, x7⟩) := Lib.hid (HJ.out.find HX.out e1)
        subst e1
        go_wp2_with fail
        (try simp only [Exit.inBlock, Exit.then])
        refine bodyPost_ret (v := .tuple #[.agg #[.int .i64 x1, .string x2, .int .i64 x3, .int .i64 x4, .int .i64 x5, .int .i64 x6, .bool x7], .bool true]) ?_ rfl ⟨by rw [HFD.out]; rfl, ?_⟩
        · rw [results_cell_tmp rfl]
          go_simp
        · exact O1.out.trans2 (seven T _ _ _ _ _ _ _ _) fun q hq e => by have := HT.out; omega
      | false =>
        go_wp2_with fail
        go_roundw
        case rel =>
          refine ⟨j + 1, by have := HLT.out; omega, next_int (by have := HN.out; have := HL.out; have := HLT.out; omega), Lib.hid (HJ.out.succ HX.out ?_), trivial⟩
          have := HB.out
          simp only
          intro e2
          subst e2
          simp at this
        case measure => exact meas HLT.out (by have := HN.out; have := HL.out; omega)
    · obtain rfl : j = n := by omega
      have HFD : Hid (c.find num = none) := Lib.hid (NotYet.none (by rw [← HL.out]; exact HJ.out))
      go_wp2_with fail
      (try simp only [Exit.inBlock, Exit.then])
      refine bodyPost_ret (v := .tuple #[.agg #[.int .i64 0, .string ⟨#[]⟩, .int .i64 0, .int .i64 0, .int .i64 0, .int .i64 0, .bool false], .bool false]) ?_ rfl ⟨by rw [HFD.out]; rfl, ?_⟩
      · rw [results_cell_tmp rfl]
        go_simp
      · exact O1.out.trans2 (seven T _ _ _ _ _ _ _ _) fun q hq e => by have := HT.out; omega
end Go.Proofs.Ytehoiapadnbklaa
