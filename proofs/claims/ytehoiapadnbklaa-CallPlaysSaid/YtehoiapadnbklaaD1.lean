/- The document's calls, in a world; New, Ask, Look. -/
import Derived.Test.YtehoiapadnbklaaT2
namespace Go.Proofs.Ytehoiapadnbklaa
open Go.RowKit Go.Maps
set_option linter.unusedVariables false

theorem info43 : Try.prog.info? 43 = some Try.t43 := by kernel_rfl
theorem t43_zero : Try.t43.zero = some Wt.zero.v := by kernel_rfl
theorem t43_size : Try.t43.size = 7 := by kernel_rfl
theorem t43_bytes : Try.t43.bytes = 64 := by kernel_rfl
structure DocAt (w : World) (X : Nat) (lv : Value) (c : Cl) : Prop where
  cells : CellsR w X [.int .i64 (c.life : Int), .int .i64 (c.given : Int), lv]
  row : WRow w lv c.ws
  apart : ∀ g, lv.ownBlock = some g → g ≠ X
  ok : c.Ok
section
variable {w w' : World} {X : Nat} {lv : Value} {c : Cl} {S : Nat → Prop}
theorem DocAt.only (h : DocAt w X lv c) (o : Only S w w') (hX : ¬ S X) (hl : ∀ g, lv.ownBlock = some g → ¬ S g) : DocAt w' X lv c := ⟨h.cells.kept o hX, h.row.only o hl, h.apart, h.ok⟩
theorem DocAt.new (h : DocAt w X lv c) (o : Only None' w w') : DocAt w' X lv c := h.only o (fun e => e) fun _ _ e => e
theorem DocAt.shape (h : DocAt w X lv c) : ∃ a k, lv = .slice a c.ws.length k := h.row.shape
end
/-- a list that this call left: lv's own block may have turned, the new one's is it or fresh -/
def DocTo (w w' : World) (X : Nat) (lv : Value) (c : Cl) : Prop := ∃ lv', DocAt w' X lv' c ∧ Only (fun k => k = X ∨ lv.ownBlock = some k) w w' ∧ ∀ g, lv'.ownBlock = some g → lv.ownBlock = some g ∨ w.heap.size ≤ g
theorem numI (a b : Nat) : ((a * 1048576 + b + 1 : Nat) : Int) = (a : Int) * 1048576 + ((b : Int) + 1) := by omega
theorem docTo_store {w w5 : World} {X : Nat} {lv lv' lo : Value} {c c' : Cl} (h : DocAt w X lv c) (o : Only (fun k => k = X ∨ lv.ownBlock = some k) w w5) (C : CellsR w5 X [.int .i64 (c'.life : Int), .int .i64 (c'.given : Int), lo]) (row : WRow w5 lv' c'.ws) (hf : ∀ g, lv'.ownBlock = some g → lv.ownBlock = some g ∨ w.heap.size ≤ g) (ok : c'.Ok) : DocTo w (w5.setCell ⟨X, 2, none⟩ lv') X lv c' := by
  have o2 : Only (fun q => q = X) w5 (w5.setCell ⟨X, 2, none⟩ lv') := (Only.refl (fun q => q = X) w5).setCell (p := ⟨X, 2, none⟩) rfl _
  have hne : ∀ g, lv'.ownBlock = some g → g ≠ X := fun g hg e => by
    rcases hf g hg with h1 | h1
    · exact h.apart g h1 e
    · have := h.cells.lt; omega
  refine ⟨lv', ⟨?_, row.only o2 hne, hne, ok⟩, o.trans (o2.mono fun k _ e => Or.inl e), hf⟩
  exact C.set (i := 2) (by simp) lv'
theorem dago_any (t now n : Int) (w : World) : Calls Try.prog 29 #[.int .i64 t, .int .i64 now, .int .i64 n] w fun e w' => e = .returned (.bool (agoB t now n)) ∧ w = w' := by
  unfold agoB
  cases h1 : decide (1 ≤ n) <;> cases h2 : decide (t ≤ now)
  all_goals (
    go_enter Try.func29, Try.ntmps29
    go_wp2_with fail
    go_ret
    first | exact ⟨rfl, rfl⟩ | exact ⟨by rw [h1, h2]; rfl, rfl⟩)
theorem dnew_bad (life : Int) (h : life < 1 ∨ 2047 < life) (w : World) : Calls Try.prog 11 #[.int .i64 life] w fun e w' => e = .returned (.tuple #[.pointer none, .int .i64 1]) ∧ w = w' := by
  by_cases h1 : life < 1
  · clear h
    go_enter Try.func11, Try.ntmps11
    go_wp2_with fail
    go_ret2
    exact ⟨rfl, rfl⟩
  · have h2 : 2047 < life := by omega
    clear h
    go_enter Try.func11, Try.ntmps11
    go_wp2_with fail
    go_ret2
    exact ⟨rfl, rfl⟩
theorem dnew_any (life : Nat) (h1 : 1 ≤ life) (h2 : life ≤ 2047) (w : World) : Calls Try.prog 11 #[.int .i64 (life : Int)] w fun e w' => e = .returned (.tuple #[.pointer (some ⟨w.heap.size, 0, none⟩), .int .i64 0]) ∧ DocAt w' w.heap.size (.slice none 0 0) ⟨life, 0, []⟩ ∧ Only None' w w' := by
  have a1 : (1 : Int) ≤ (life : Int) := by omega
  have a2 : (life : Int) ≤ 2047 := by omega
  have H := Lib.hid (And.intro h1 h2)
  clear h1 h2
  go_enter Try.func11, Try.ntmps11
  go_wp2_with fail
  go_ret2
  exact ⟨rfl, ⟨cells_new w [.int .i64 (life : Int), .int .i64 0, .slice none 0 0] 54, WRow.nil _, (fun g hg => by cases hg), ⟨H.out.1, H.out.2, Nat.zero_le _, List.Pairwise.nil, fun x hx => absurd hx List.not_mem_nil, Nat.zero_le _⟩⟩, (Only.refl _ _).alloc _⟩
theorem dask_no {w : World} {X : Nat} {lv : Value} {c : Cl} (h : DocAt w X lv c) (key : ByteArray) (client id now : Int) {code : Int} (hc : c.askCode now = code) (h0 : code ≠ 0) : Calls Try.prog 12 #[.pointer (some ⟨X, 0, none⟩), .string key, .int .i64 client, .int .i64 id, .int .i64 now] w fun e w' => e = .returned (.tuple #[.int .i64 0, .int .i64 code]) ∧ w = w' := by
  obtain ⟨a, k, rfl⟩ := h.shape
  have c1 := h.cells.is 1 _ rfl
  have c2 := h.cells.is 2 _ rfl
  have hf := h.ok.few
  have hg := h.ok.g
  obtain ⟨n, hn⟩ : ∃ n, n = c.ws.length := ⟨_, rfl⟩
  obtain ⟨gv, hgv⟩ : ∃ gv, gv = c.given := ⟨_, rfl⟩
  unfold Cl.askCode at hc
  rw [← hn] at c2 hc hf
  rw [← hgv] at c1 hc hg
  clear hn hgv h
  by_cases h1 : now < 0
  · rw [if_pos h1] at hc
    have d1 : decide (now < 0) = true := by rw [decide_eq_true_eq]; exact h1
    subst hc
    clear h0 h1 hf hg
    go_enter Try.func12, Try.ntmps12
    go_wp2_with fail
    go_ret2
    exact ⟨rfl, rfl⟩
  rw [if_neg h1] at hc
  have d1 : decide (now < 0) = false := by rw [decide_eq_false_iff_not]; exact h1
  by_cases h2 : n = 64
  · rw [if_pos h2] at hc
    subst hc h2
    clear h0 h1 hf hg
    go_enter Try.func12, Try.ntmps12
    go_wp2_with fail
    go_ret2
    exact ⟨rfl, rfl⟩
  rw [if_neg h2] at hc
  have d2 : decide ((64 : Int) ≤ (n : Int)) = false := by rw [decide_eq_false_iff_not]; omega
  have d2' : decide (64 ≤ n) = false := by rw [decide_eq_false_iff_not]; omega
  by_cases h3 : gv = 1048575
  · rw [if_pos h3] at hc
    subst hc
    have d3 : decide ((1048575 : Int) ≤ (gv : Int)) = true := by rw [decide_eq_true_eq]; omega
    have d3' : decide (1048575 ≤ gv) = true := by rw [decide_eq_true_eq]; omega
    clear h0 h1 h2 h3 hf hg
    go_enter Try.func12, Try.ntmps12
    go_wp2_with fail
    go_ret2
    exact ⟨rfl, rfl⟩
  · rw [if_neg h3] at hc
    exact absurd hc.symm h0
set_option maxRecDepth 20000 in
set_option maxHeartbeats 1000000 in
theorem dask_go {w : World} {X : Nat} {lv : Value} {c : Cl} (h : DocAt w X lv c) (key : ByteArray) (client id now : Int) (hc : c.askCode now = 0) : Calls Try.prog 12 #[.pointer (some ⟨X, 0, none⟩), .string key, .int .i64 client, .int .i64 id, .int .i64 now] w fun e w' => e = .returned (.tuple #[.int .i64 ((c.life * 1048576 + c.given + 1 : Nat) : Int), .int .i64 0]) ∧ DocTo w w' X lv (c.asked key client id now) := by
  obtain ⟨a, k, rfl⟩ := h.shape
  have c0 := h.cells.is 0 _ rfl
  have c1 := h.cells.is 1 _ rfl
  have c2 := h.cells.is 2 _ rfl
  have fz := h.cells.thaw
  have hX := h.cells.lt
  have H := Lib.hid h
  have OK := Lib.hid (h.ok.asked (key := key) (client := client) (id := id) hc)
  have hl1 := h.ok.l1
  have hl2 := h.ok.l2
  obtain ⟨n, hn⟩ : ∃ n, n = c.ws.length := ⟨_, rfl⟩
  obtain ⟨gv, hgv⟩ : ∃ gv, gv = c.given := ⟨_, rfl⟩
  obtain ⟨lf, hlf⟩ : ∃ lf, lf = c.life := ⟨_, rfl⟩
  have HN := Lib.hid (And.intro hn (And.intro hgv hlf))
  unfold Cl.askCode at hc
  rw [← hn] at c2 hc
  rw [← hgv] at c1 hc
  rw [← hlf] at c0 hl1 hl2
  have hg := h.ok.g
  rw [← hgv] at hg
  split at hc
  · cases hc
  split at hc
  · cases hc
  split at hc
  · cases hc
  rename_i h1 h2 h3
  have hf := h.ok.few
  rw [← hn] at hf
  have HF := Lib.hid hf
  have d1 : decide (now < 0) = false := by rw [decide_eq_false_iff_not]; exact h1
  have d2 : decide ((64 : Int) ≤ (n : Int)) = false := by rw [decide_eq_false_iff_not]; omega
  have d2' : decide (64 ≤ n) = false := by rw [decide_eq_false_iff_not]; omega
  have d3 : decide ((1048575 : Int) ≤ (gv : Int)) = false := by rw [decide_eq_false_iff_not]; omega
  have d3' : decide (1048575 ≤ gv) = false := by rw [decide_eq_false_iff_not]; omega
  have g0 : (0 : Int) ≤ (gv : Int) := by omega
  have g1 : (gv : Int) ≤ 1048574 := by omega
  have l0 : (1 : Int) ≤ (lf : Int) := by omega
  have l1 : (lf : Int) ≤ 2047 := by omega
  rw [← hn, ← hgv, ← hlf]
  clear hn hgv hlf h1 h2 h3 h hc hg hl1 hl2 hf
  go_enter Try.func12, Try.ntmps12
  go_wp2_with fail
  obtain ⟨w1, hw1⟩ : ∃ w1, w1 = w.setCell ⟨X, 1, none⟩ (.int .i64 ((gv : Int) + 1)) := ⟨_, rfl⟩
  have C1 : Hid (CellsR w1 X [.int .i64 (lf : Int), .int .i64 ((gv : Int) + 1), .slice a n k]) := Lib.hid (by
    have := H.out.cells.set (i := 1) (by simp) (.int .i64 ((gv : Int) + 1))
    rw [← HN.out.1, ← HN.out.2.2, ← hw1] at this
    exact this)
  have O1 : Hid (Only (fun q => q = X) w w1) := Lib.hid (by rw [hw1]; exact (Only.refl (fun q => q = X) w).setCell (p := ⟨X, 1, none⟩) rfl _)
  have y0 := C1.out.is 0 _ rfl
  have y1 := C1.out.is 1 _ rfl
  have y2 := C1.out.is 2 _ rfl
  have yf := C1.out.thaw
  have yl := C1.out.lt
  rw [← hw1]
  clear hw1 c0 c1 c2 fz d1 d2 d2' d3 d3'
  go_quiet (fail)
  obtain ⟨w2, hw2⟩ : ∃ w2, w2 = w1.drewN nq := ⟨_, rfl⟩
  have O12 : Hid (Only None' w1 w2) := Lib.hid (by rw [hw2]; exact (Only.refl None' w1).drewN nq)
  have C2 : Hid (CellsR w2 X [.int .i64 (lf : Int), .int .i64 ((gv : Int) + 1), .slice a n k]) := Lib.hid (C1.out.kept O12.out fun e => e)
  have R2 : Hid (WRow w2 (.slice a n k) c.ws) := Lib.hid (by
    have h1 := (H.out.row.only O1.out fun g hg => H.out.apart g hg).only O12.out fun _ _ e => e
    rw [← HN.out.1] at h1
    exact h1)
  have x0 := C2.out.is 0 _ rfl
  have x1 := C2.out.is 1 _ rfl
  have x2 := C2.out.is 2 _ rfl
  have HR := Lib.hid (rd_new w2 [.int .i64 ((lf : Int) * 1048576 + ((gv : Int) + 1)), .string key, .int .i64 client, .int .i64 id, .int .i64 now, .int .i64 now, .bool false] 43 1 7 rfl (by decide))
  have HRW := Lib.hid R2.out.row
  rw [← HN.out.1] at HRW
  rw [← hw2]
  clear hw2 y0 y1 y2 yf yl
  go_wp2_with (first | (at_builtin; refine wpList_append_any rfl _ _ 48 rfl 43 Try.t43 Wt.zero.v 7 64 Try.underlying48 info43 t43_zero t43_size t43_bytes rfl (by decide) (.slice a n k) n (c.ws.flatMap Wt.row) rfl (HRW.out.alloc _) (.slice (some ⟨w2.heap.size, 0, none⟩) 1 1) 1 [.int .i64 ((lf : Int) * 1048576 + ((gv : Int) + 1)), .string key, .int .i64 client, .int .i64 id, .int .i64 now, .int .i64 now, .bool false] rfl HR.out (Wt.row_one ⟨(lf : Int) * 1048576 + ((gv : Int) + 1), key, client, id, now, now, false⟩) (by have h1 := HF.out; unfold maxLen; omega) (by have h1 := HF.out; omega) ?_; intro v2 w5 hv2 hg2 hf2; obtain ⟨oa2, oc2, rfl, _, _⟩ := hv2.shape; have oy : Only (fun q => (Value.slice a n k).ownBlock = some q) (w2.alloc (.cells #[.int .i64 ((lf : Int) * 1048576 + ((gv : Int) + 1)), .string key, .int .i64 client, .int .i64 id, .int .i64 now, .int .i64 now, .bool false] 43)) w5 := (Only.refl _ _).grown hg2 fun g hg => hg; have C5 := Lib.hid ((C2.out.kept ((Only.refl None' w2).alloc (.cells #[.int .i64 ((lf : Int) * 1048576 + ((gv : Int) + 1)), .string key, .int .i64 client, .int .i64 id, .int .i64 now, .int .i64 now, .bool false] 43)) fun e => e).kept oy fun e => H.out.apart X (by rw [HN.out.1] at e; exact e) rfl); have y2 := C5.out.is 2 _ rfl; have yf := C5.out.thaw; have yl := C5.out.lt; have HY := Lib.hid (And.intro hv2 (And.intro oy hf2)); clear hv2 hg2 hf2 x0 x1 x2 oy))
  go_ret2
  rw [numI]
  refine ⟨rfl, ?_⟩
  have hal : Only (fun q => q = X ∨ (Value.slice a n k).ownBlock = some q) w (w2.alloc (.cells #[.int .i64 ((lf : Int) * 1048576 + ((gv : Int) + 1)), .string key, .int .i64 client, .int .i64 id, .int .i64 now, .int .i64 now, .bool false] 43)) := (((O1.out.mono fun _ _ e => Or.inl e).trans (O12.out.mono fun _ _ e => e.elim))).alloc _
  have hs1 := O1.out.size
  have hs2 := O12.out.size
  have hsz : (w2.alloc (.cells #[.int .i64 ((lf : Int) * 1048576 + ((gv : Int) + 1)), .string key, .int .i64 client, .int .i64 id, .int .i64 now, .int .i64 now, .bool false] 43)).heap.size = w2.heap.size + 1 := by simp
  have HD := H.out
  rw [← HN.out.1] at HD
  refine docTo_store HD (hal.trans (HY.out.2.1.mono fun _ _ e => Or.inr e)) (lo := .slice a n k) ?_ ⟨?_⟩ (fun g hg => ?_) OK.out
  · have := C5.out
    rw [HN.out.2.1, HN.out.2.2] at this
    exact this
  · have e : (c.asked key client id now).ws.length = n + 1 := by rw [HN.out.1]; exact List.length_append
    have e2 : (c.asked key client id now).ws.flatMap Wt.row = c.ws.flatMap Wt.row ++ [.int .i64 ((lf : Int) * 1048576 + ((gv : Int) + 1)), .string key, .int .i64 client, .int .i64 id, .int .i64 now, .int .i64 now, .bool false] := by
      unfold Cl.asked
      simp only
      rw [List.flatMap_append, List.flatMap_singleton, HN.out.2.1, HN.out.2.2, numI]
      rfl
    rw [e, e2]
    exact HY.out.1
  · rcases HY.out.2.2 g hg with h1 | h1
    · exact Or.inl h1
    · exact Or.inr (by omega)
end Go.Proofs.Ytehoiapadnbklaa
