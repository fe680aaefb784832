/- The document's Mark. -/
import Derived.Test.YtehoiapadnbklaaD3
namespace Go.Proofs.Ytehoiapadnbklaa
open Go.RowKit Go.Maps
set_option linter.unusedVariables false

theorem flat_mark : ∀ (l : List Wt) (k : Nat) (x : Wt), l[k]? = some x → (l.set k x.mark).flatMap Wt.row = (l.flatMap Wt.row).set (k * 7 + 6) (.bool true)
  | [], k, x, h => by simp at h
  | y :: l, 0, x, h => by
    simp at h
    subst h
    rfl
  | y :: l, k + 1, x, h => by
    have ih := flat_mark l k x (by simpa using h)
    rw [List.set_cons_succ, List.flatMap_cons, List.flatMap_cons, ih, show (k + 1) * 7 + 6 = y.row.length + (k * 7 + 6) by rw [Wt.row_length]; omega, List.set_append_right _ _ (by omega), Nat.add_sub_cancel_left]
theorem WRow.setMark {w : World} {g off n c k : Nat} {l : List Wt} {x : Wt} (h : WRow w (.slice (some ⟨g, off, none⟩) n c) l) (hn : n = l.length) (hx : l[k]? = some x) : WRow (w.setCell ⟨g, off + k * 7 + 6, none⟩ (.bool true)) (.slice (some ⟨g, off, none⟩) n c) (l.set k x.mark) := by
  obtain ⟨hk, _⟩ := List.getElem?_eq_some_iff.1 hx
  subst hn
  have h1 := h.row.put (o := k * 7 + 6) (vs := [.bool true]) (by
    have : (k + 1) * 7 ≤ l.length * 7 := Nat.mul_le_mul_right _ hk
    simp only [List.length_singleton]
    omega)
  refine ⟨?_⟩
  rw [flat_mark l k x hx, List.length_set, Nat.add_assoc]
  have e : (l.flatMap Wt.row).set (k * 7 + 6) (.bool true) = (l.flatMap Wt.row).take (k * 7 + 6) ++ [.bool true] ++ (l.flatMap Wt.row).drop (k * 7 + 6 + 1) := by
    rw [List.set_eq_take_append_cons_drop, if_pos (by
      rw [flat_len]
      have : (k + 1) * 7 ≤ l.length * 7 := Nat.mul_le_mul_right _ hk
      omega), List.append_assoc]
    rfl
  rw [e]
  exact h1
theorem set_same {α : Type} {l : List α} {k : Nat} {x : α} (h : l[k]? = some x) : l.set k x = l := by
  obtain ⟨hk, rfl⟩ := List.getElem?_eq_some_iff.1 h
  exact List.set_getElem_self hk
theorem stepRow_hit {f : Wt → Wt} {l : List Wt} {k : Nat} {x y : Wt} (h : l[k]? = some x) (e : f x = y) : (stepRow f l k).set k y = stepRow f l (k + 1) := by rw [← e]; exact stepRow_succ f h
theorem stepRow_miss {f : Wt → Wt} {l : List Wt} {k : Nat} {x : Wt} (h : l[k]? = some x) (e : f x = x) : stepRow f l (k + 1) = stepRow f l k := by
  rw [← stepRow_hit h e]
  exact set_same (stepRow_at f h)
/-- in place, under way -/
structure SLoop (w wr : World) (lv : Value) (l : List Wt) (f : Wt → Wt) (j : Nat) : Prop where
  only : Only (fun k => lv.ownBlock = some k) w wr
  row : WRow wr lv (stepRow f l j)
theorem SLoop.doc {w wr : World} {X : Nat} {lv : Value} {c : Cl} {l : List Wt} {f : Wt → Wt} {j : Nat} (h : DocAt w X lv c) (s : SLoop w wr lv l f j) : CellsR wr X [.int .i64 (c.life : Int), .int .i64 (c.given : Int), lv] := h.cells.kept s.only fun e => h.apart X e rfl
theorem SLoop.done {w wr : World} {X : Nat} {lv : Value} {c : Cl} {f : Wt → Wt} {j : Nat} (h : DocAt w X lv c) (s : SLoop w wr lv c.ws f j) (hj : j = c.ws.length) (hf : ∀ y ∈ c.ws, (f y).req = y.req) : DocTo w wr X lv (c.with_ (c.ws.map f)) := by
  subst hj
  have hr := s.row
  rw [stepRow_end] at hr
  exact ⟨lv, ⟨show CellsR wr X [.int .i64 (c.life : Int), .int .i64 (c.given : Int), lv] from SLoop.doc h s, hr, h.apart, h.ok.map f hf⟩, s.only.mono fun _ _ e => Or.inr e, fun g hg => Or.inl hg⟩

set_option maxRecDepth 20000 in
set_option maxHeartbeats 1000000 in
theorem dmark_any {w : World} {X : Nat} {lv : Value} {c : Cl} (h : DocAt w X lv c) (key : ByteArray) : Calls Try.prog 18 #[.pointer (some ⟨X, 0, none⟩), .string key] w fun e w' => e = .returned (.int .i64 ((c.ws.filter fun x => decide (x.key = key)).length : Int)) ∧ DocTo w w' X lv (c.mark key) := by
  obtain ⟨a, k, rfl⟩ := h.shape
  have H := Lib.hid h
  have HN := Lib.hid h.ok.few
  obtain ⟨F, hF⟩ : ∃ F : Wt → Wt, F = fun y => if decide (y.key = key) then y.mark else y := ⟨_, rfl⟩
  obtain ⟨Q, hQ⟩ : ∃ Q : Wt → Bool, Q = fun x => decide (x.key = key) := ⟨_, rfl⟩
  have HF := Lib.hid hF
  have HQ := Lib.hid hQ
  have hmk : c.mark key = c.with_ (c.ws.map F) := by rw [hF]; rfl
  rw [hmk, ← hQ]
  clear hF hQ hmk
  obtain ⟨n, hn⟩ : ∃ n, n = c.ws.length := ⟨_, rfl⟩
  have HL := Lib.hid hn
  rw [← hn] at H ⊢
  clear h hn
  go_enter Try.func18, Try.ntmps18
  go_wp2_with fail
  go_loopw [5, 6] (fun t i wr => ∃ j : Nat, j ≤ n ∧ t = .int .i64 (((c.ws.take j).filter Q).length : Int) ∧ i = .int .i64 (j : Int) ∧ Hid (SLoop w wr (.slice a n k) c.ws F j)) (fun t i wr => n - (intOf i).toNat)
  case atStart => exact ⟨0, by omega, rfl, rfl, Lib.hid ⟨Only.refl _ _, H.out.row⟩⟩
  case round =>
    obtain ⟨j, hj, rfl, rfl, HJ⟩ := hrel
    have HD := Lib.hid (HJ.out.doc H.out)
    have c2 := HD.out.is 2 _ rfl
    by_cases hlt : j < n
    · have hjl : j < c.ws.length := by have := HL.out; omega
      obtain ⟨x, hx⟩ : ∃ x, x = c.ws[j] := ⟨_, rfl⟩
      have HX : Hid (c.ws[j]? = some x) := Lib.hid (by rw [hx]; exact List.getElem?_eq_getElem hjl)
      have hst := stepRow_at F HX.out
      obtain ⟨hs1, hs2⟩ := List.getElem?_eq_some_iff.1 hst
      obtain ⟨g, off, cp, e, hg, hcell, hth⟩ := HJ.out.row.at_ hs1
      rw [hs2] at hcell
      injection e with e e2 e3
      subst e
      have f6 := hth 6 (by decide)
      clear e2 e3 hx hs2 hs1 hth
      obtain ⟨z1, z2, z3, z4, z5, z6, z7⟩ := x
      have k1 := hcell 1 _ rfl
      have k6 := hcell 6 _ rfl
      have i0 : (0 : Int) ≤ (j : Int) := by omega
      have i1 : (j : Int) < (n : Int) := by omega
      have HLT := Lib.hid hlt
      have HTK := filter_take_succ Q c.ws j _ HX.out
      have HLN : Hid (((c.ws.take j).filter Q).length ≤ 64) := Lib.hid (Nat.le_trans (fil_len _ _ _) HN.out)
      obtain ⟨q, hq⟩ : ∃ q, q = (z2.toList == key.toList) := ⟨_, rfl⟩
      have HQB : Hid (q = decide (z2 = key)) := Lib.hid (by rw [hq]; exact same_str z2 key)
      have hq' := hq.symm
      have HTQ : Hid (((c.ws.take (j + 1)).filter Q).length = ((c.ws.take j).filter Q).length + if q then 1 else 0) := Lib.hid (by
        rw [HTK, HQB.out, HQ.out]
        by_cases e : z2 = key <;> simp [e])
      have HFX : Hid (F ⟨z1, z2, z3, z4, z5, z6, z7⟩ = if q then Wt.mark ⟨z1, z2, z3, z4, z5, z6, z7⟩ else ⟨z1, z2, z3, z4, z5, z6, z7⟩) := Lib.hid (by rw [HF.out, HQB.out])
      obtain ⟨t, ht⟩ : ∃ t, t = ((c.ws.take j).filter Q).length := ⟨_, rfl⟩
      rw [← ht] at HLN HTQ ⊢
      have t0 : (0 : Int) ≤ (t : Int) := by omega
      have t1 : (t : Int) ≤ 64 := by have := HLN.out; omega
      clear hcell hlt hj hjl hq HTK ht hst
      cases q with
      | false =>
        go_wp2_with fail
        go_roundw
        case rel => exact ⟨j + 1, by have := HLT.out; omega, by rw [HTQ.out]; rfl, next_int (by have := HN.out; have := HL.out; have := HLT.out; omega), Lib.hid ⟨HJ.out.only, by rw [stepRow_miss HX.out HFX.out]; exact HJ.out.row⟩⟩
        case measure => exact meas HLT.out (by have := HN.out; have := HL.out; omega)
      | true =>
        go_wp2_with fail
        go_roundw
        case rel =>
          refine ⟨j + 1, by have := HLT.out; omega, by rw [HTQ.out]; rfl, next_int (by have := HN.out; have := HL.out; have := HLT.out; omega), Lib.hid ⟨?_, ?_⟩⟩
          · exact HJ.out.only.setCell (p := ⟨g, off + j * 7 + 6, none⟩) rfl _
          · rw [← stepRow_hit HX.out HFX.out]
            exact HJ.out.row.setMark (by rw [stepRow_length]; exact HL.out) (stepRow_at F HX.out)
        case measure => exact meas HLT.out (by have := HN.out; have := HL.out; omega)
    · obtain rfl : j = n := by omega
      have hend : (c.ws.take j).filter Q = c.ws.filter Q := by rw [List.take_of_length_le (by have := HL.out; omega)]
      rw [hend]
      go_wp2_with fail
      go_ret
      refine ⟨rfl, HJ.out.done H.out HL.out fun y _ => ?_⟩
      rw [HF.out]
      simp only
      split <;> rfl
end Go.Proofs.Ytehoiapadnbklaa
