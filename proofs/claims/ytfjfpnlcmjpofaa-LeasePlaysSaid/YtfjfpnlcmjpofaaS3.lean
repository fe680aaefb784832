/- Clear, New, Early, Shut, Unshut. -/
import Derived.Test.YtfjfpnlcmjpofaaS2
namespace Go.Proofs.Ytfjfpnlcmjpofaa
open Go.RowKit Go.Maps
set_option linter.unusedVariables false

def Tb.cleared (t : Tb) : Tb := ⟨t.life, t.hold, t.start, t.given, [], [], 0⟩
set_option maxHeartbeats 1000000 in
theorem clear_cells {w : World} {B : Nat} {a b c d x y : Value} (h : CellsR w B [a, b, c, d, x, y]) : Calls Try.prog 9 #[.pointer (some ⟨B, 0, none⟩)] w fun e w' => e = .returned (.tuple #[]) ∧ ∃ M N, CellsR w' B [a, b, c, d, .map (some M), .map (some N)] ∧
    w'.ownsMap Try.prog 64 lsR M 0 (.map []) ∧ w'.ownsMap Try.prog 9 (plainElem (H := Unit) Try.prog 4) N 0 (.map []) ∧ w.heap.size ≤ M ∧ w.heap.size ≤ N ∧ M ≠ N ∧ M < w'.heap.size ∧ N < w'.heap.size ∧ Only (fun k => k = B) w w' := by
  have H := Lib.hid h
  have hmm := @run_makeMap Try.prog
  have c4 := h.is 4 _ rfl
  have c5 := h.is 5 _ rfl
  have f := h.thaw
  have hl := h.lt
  clear h
  go_enter Try.func9, Try.ntmps9
  go_wp2_with fail
  go_end0
  obtain ⟨w1, hw1⟩ : ∃ w1, w1 = (w.setCell ⟨B, 4, none⟩ (.map (some w.heap.size))).setCell ⟨B, 5, none⟩ (.map (some (w.heap.size + 1))) := ⟨_, rfl⟩
  have hs : w1.heap.size = w.heap.size := by rw [hw1, heap_size_setCell, heap_size_setCell]
  have C1 : CellsR w1 B [a, b, c, d, .map (some w.heap.size), .map (some (w.heap.size + 1))] := by rw [hw1]; exact (H.out.set (i := 4) (by simp) (.map (some w.heap.size))).set (i := 5) (by simp) (.map (some (w.heap.size + 1)))
  have o1 : Only (fun k => k = B) w w1 := by rw [hw1]; exact ((Only.refl (fun k => k = B) w).setCell (p := ⟨B, 4, none⟩) rfl _).setCell (p := ⟨B, 5, none⟩) rfl _
  rw [← hw1]
  have m1 := (World.ownsMap_made w1 Try.prog 64 lsR).alloc (.map #[] 0)
  have m2 := World.ownsMap_made (w1.alloc (.map #[] 0)) Try.prog 9 (plainElem (H := Unit) Try.prog 4)
  rw [World.size_alloc] at m2
  rw [hs] at m1 m2
  refine ⟨rfl, w.heap.size, w.heap.size + 1, C1.kept (((Only.refl None' w1).alloc _).alloc _) fun e => e, m1, m2, Nat.le_refl _, by omega, by omega, by simp; omega, by simp; omega, (o1.alloc _).alloc _⟩
theorem Tb.Ok.cleared {t : Tb} (h : t.Ok) : t.cleared.Ok := ⟨h.l1, h.l2, h.g, h.h1, h.h2, h.s1, h.s2, .nil, fun x hx => absurd hx (List.not_mem_nil), Nat.zero_le _⟩
theorem clear_any {w : World} {B M N : Nat} {t : Tb} (h : TabAt w B M N t) : Calls Try.prog 9 #[.pointer (some ⟨B, 0, none⟩)] w fun e w' => e = .returned (.tuple #[]) ∧ ∃ M' N', TabAt w' B M' N' t.cleared ∧ w.heap.size ≤ M' ∧ w.heap.size ≤ N' ∧ Only (fun k => k = B) w w' :=
  (clear_cells h.cells).mono fun e w' ⟨h0, M', N', h1, h2, h3, h4, h5, h6, h7, h8, h9⟩ => ⟨h0, M', N', ⟨h1, ⟨_, .nil, h2⟩, ⟨0, _, Nat.le_refl _, h3, fun x => by simp [DataW.atKey, Tb.cleared]⟩, ⟨by have := h.cells.lt; omega, by have := h.cells.lt; omega, h6⟩, ⟨h7, h8⟩, h.ok.cleared⟩, h4, h5, h9⟩
theorem clear_nil (w : World) : Calls Try.prog 9 #[.pointer none] w fun e w' => e = .returned (.tuple #[]) ∧ w = w' := by
  go_enter Try.func9, Try.ntmps9
  go_wp2_with fail
  go_end0
  exact ⟨rfl, rfl⟩
/-! ### New -/
/-- may a table be? -/
def newB (life hold now : Int) : Bool := decide (1 ≤ life) && decide (life ≤ 2047) && decide (1 ≤ hold) && decide (hold ≤ 2147483647) && clockB now
theorem new_bad (life hold now : Int) (h : newB life hold now = false) (w : World) : Calls Try.prog 8 #[.int .i64 life, .int .i64 hold, .int .i64 now] w fun e w' => e = .returned (.tuple #[.pointer none, .int .i64 1]) ∧ w = w' := by
  have HC := Lib.hid (fun w => clock_any now w)
  unfold newB at h
  obtain ⟨cb, hcb⟩ : ∃ cb, cb = clockB now := ⟨_, rfl⟩
  rw [← hcb] at h HC
  clear hcb
  by_cases h1 : life < 1
  · clear h
    go_enter Try.func8, Try.ntmps8
    go_wp2_with fail
    go_ret2
    exact ⟨rfl, rfl⟩
  by_cases h2 : 2047 < life
  · clear h
    go_enter Try.func8, Try.ntmps8
    go_wp2_with fail
    go_ret2
    exact ⟨rfl, rfl⟩
  by_cases h3 : hold < 1
  · clear h
    go_enter Try.func8, Try.ntmps8
    go_wp2_with fail
    go_ret2
    exact ⟨rfl, rfl⟩
  by_cases h4 : 2147483647 < hold
  · clear h
    go_enter Try.func8, Try.ntmps8
    go_wp2_with fail
    go_ret2
    exact ⟨rfl, rfl⟩
  have e1 : decide (1 ≤ life) = true := by rw [decide_eq_true_eq]; omega
  have e2 : decide (life ≤ 2047) = true := by rw [decide_eq_true_eq]; omega
  have e3 : decide (1 ≤ hold) = true := by rw [decide_eq_true_eq]; omega
  have e4 : decide (hold ≤ 2147483647) = true := by rw [decide_eq_true_eq]; omega
  rw [e1, e2, e3, e4] at h
  simp only [Bool.true_and] at h
  subst h
  clear e1 e2 e3 e4
  go_enter Try.func8, Try.ntmps8
  go_wp2_with (go_at_call 27; refine (HC.out _).mono ?_; rintro e w' ⟨rfl, rfl⟩)
  go_ret2
  exact ⟨rfl, rfl⟩
set_option maxRecDepth 100000 in
theorem new_any (life : Nat) (hold now : Int) (h : newB (life : Int) hold now = true) (w : World) : Calls Try.prog 8 #[.int .i64 (life : Int), .int .i64 hold, .int .i64 now] w fun e w' => ∃ B M N, e = .returned (.tuple #[.pointer (some ⟨B, 0, none⟩), .int .i64 0]) ∧ TabAt w' B M N ⟨life, hold, now, 0, [], [], 0⟩ ∧ w.heap.size ≤ B ∧ w.heap.size ≤ M ∧ w.heap.size ≤ N ∧ Only None' w w' := by
  have HC := Lib.hid (fun w => clock_any now w)
  unfold newB at h
  simp only [Bool.and_eq_true, decide_eq_true_eq] at h
  obtain ⟨⟨⟨⟨h1, h2⟩, h3⟩, h4⟩, h5⟩ := h
  have h5' := h5
  unfold clockB at h5'
  simp only [Bool.and_eq_true, decide_eq_true_eq] at h5'
  have HK : Hid (1 ≤ life ∧ life ≤ 2047 ∧ 1 ≤ hold ∧ hold ≤ 2147483647 ∧ 0 ≤ now ∧ now ≤ 2147483647) := Lib.hid (by omega)
  rw [h5] at HC
  have HCL := Lib.hid (fun (w : World) B a b c d x y => @clear_cells w B a b c d x y)
  clear h5 h5'
  go_enter Try.func8, Try.ntmps8
  go_wp2_with (go_at_call 27; refine (HC.out _).mono ?_; rintro e w' ⟨rfl, rfl⟩)
  have C1 := cells_new w [.int .i64 hold, .int .i64 now, .int .i64 ((life : Int) * 1048576), .int .i64 ((life : Int) * 1048576 + 1048576 - 1), .map none, .map none] 62
  refine (HCL.out _ _ _ _ _ _ _ _ C1).mono ?_
  rintro e w2 ⟨rfl, M, N, k1, k2, k3, k4, k5, k6, k7, k8, k9⟩
  have K := Lib.hid (And.intro k1 (And.intro k2 (And.intro k3 (And.intro k4 (And.intro k5 (And.intro k6 (And.intro k7 (And.intro k8 k9))))))))
  clear C1 k1 k2 k3 k4 k5 k6 k7 k8 k9
  go_wp2_with fail
  go_ret2
  obtain ⟨k1, k2, k3, k4, k5, k6, k7, k8, k9⟩ := K.out
  obtain ⟨b1, b2, b3, b4, b5, b6⟩ := HK.out
  simp at k4 k5
  refine ⟨w.heap.size, M, N, rfl, ⟨?_, ⟨_, .nil, k2⟩, ⟨0, _, Nat.le_refl _, k3, fun x => by simp [DataW.atKey]⟩, ⟨by omega, by omega, k6⟩, ⟨k7, k8⟩, ⟨b1, b2, Nat.zero_le _, b3, b4, b5, b6, .nil, fun x hx => absurd hx (List.not_mem_nil), Nat.zero_le _⟩⟩, Nat.le_refl _, by omega, by omega, ((Only.refl None' w).alloc _).trans2 k9 fun k hk e => by omega⟩
  rw [show (((⟨life, hold, now, 0, [], [], 0⟩ : Tb).top : Nat) : Int) = (life : Int) * 1048576 by simp [Tb.top], show (((⟨life, hold, now, 0, [], [], 0⟩ : Tb).fin : Nat) : Int) = (life : Int) * 1048576 + 1048576 - 1 by simp only [Tb.fin]; omega]
  exact k1
/-! ### Early -/
theorem early_any {w : World} {B M N : Nat} {t : Tb} (h : TabAt w B M N t) (now : Int) : Calls Try.prog 19 #[.pointer (some ⟨B, 0, none⟩), .int .i64 now] w fun e w' => e = .returned (.bool (decide (now < t.start + t.hold))) ∧ ∃ q, w' = w.drewN q := by
  have c0 := h.cells.is 0 _ rfl
  have c1 := h.cells.is 1 _ rfl
  have o := h.ok
  obtain ⟨a, ha⟩ : ∃ a, a = t.hold := ⟨_, rfl⟩
  obtain ⟨b, hb⟩ : ∃ b, b = t.start := ⟨_, rfl⟩
  have r1 := o.h1
  have r2 := o.h2
  have r3 := o.s1
  have r4 := o.s2
  rw [← ha] at c0 r1 r2 ⊢
  rw [← hb] at c1 r3 r4 ⊢
  clear h o ha hb
  go_enter Try.func19, Try.ntmps19
  go_wp2_with fail
  go_quiet (fail)
  go_wp2_with fail
  go_ret
  exact ⟨rfl, _, rfl⟩
theorem early_nil (now : Int) (w : World) : Calls Try.prog 19 #[.pointer none, .int .i64 now] w fun e w' => e = .returned (.bool false) ∧ ∃ q, w' = w.drewN q := by
  go_enter Try.func19, Try.ntmps19
  go_wp2_with fail
  go_quiet (fail)
  go_wp2_with fail
  go_ret
  exact ⟨rfl, _, rfl⟩
end Go.Proofs.Ytfjfpnlcmjpofaa
