/- New (5); Clock (12); Entries (11). (Printed by tp.py.) -/
import Derived.Test.YtfmpidacklhmaaaAN
namespace Go.Proofs.Ytfmpidacklhmaaa
open Go.RowKit Go.Maps
set_option linter.unusedVariables false
set_option linter.unusedSimpArgs false
set_option maxRecDepth 20000

def Cs.zero : Cs := ⟨0, [], ⟨1, 0, []⟩, fun _ => Ak.zero, 0, 0, 0, 0⟩
theorem cnew_low (w : World) (a : Int) (ha : a = 100 ∨ a = 104) : Calls Try.prog 5 #[.int .i64 a, suV, .int .i64 1] w fun e w' => e = .returned (.tuple #[.pointer none, .int .i64 1]) ∧ Only None' w w' := by
  unfold suV
  rcases ha with rfl | rfl
  all_goals
    go_enter Try.func5, Try.ntmps5
    go_wp2_with fail
    go_ret2
    exact ⟨rfl, (Only.refl None' w).alloc _⟩
theorem cnew_none (w : World) : Calls Try.prog 5 #[.int .i64 101, suZ, .int .i64 1] w fun e w' => e = .returned (.tuple #[.pointer none, .int .i64 1]) ∧ Only None' w w' := by
  unfold suZ
  go_enter Try.func5, Try.ntmps5
  go_wp2_with fail
  refine (may_no _).mono ?_
  rintro e w2 ⟨rfl, o2⟩
  have O2 := Lib.hid o2
  clear o2
  go_wp2_with fail
  go_ret2
  exact ⟨rfl, ((Only.refl None' w).alloc _).trans O2.out⟩
theorem cnew_life (w : World) (n : Int) (hn : n < 1 ∨ 2047 < n) : Calls Try.prog 5 #[.int .i64 101, suV, .int .i64 n] w fun e w' => e = .returned (.tuple #[.pointer none, .int .i64 1]) ∧ Only None' w w' := by
  have HN := Lib.hid hn
  clear hn
  unfold suV
  go_enter Try.func5, Try.ntmps5
  go_wp2_with fail
  refine (may_su _).mono ?_
  rintro e w2 ⟨rfl, o2⟩
  have O2 := Lib.hid o2
  clear o2
  go_wp2_with fail
  refine (new_bad n HN.out _).mono ?_
  rintro e w3 ⟨rfl, rfl⟩
  go_wp2_with fail
  go_ret2
  exact ⟨rfl, ((Only.refl None' w).alloc _).trans O2.out⟩
theorem cnew_any (w : World) : Calls Try.prog 5 #[.int .i64 101, suV, .int .i64 1] w fun e w' => ∃ b : Bk, e = .returned (.tuple #[.pointer (some ⟨b.C, 0, none⟩), .int .i64 0]) ∧ CacheAt w' b Cs.zero ∧ (∀ k, b.own [] k → w.heap.size ≤ k) ∧ Only None' w w' := by
  have hmm := @run_makeMap Try.prog
  unfold suV
  go_enter Try.func5, Try.ntmps5
  go_wp2_with fail
  generalize hX : w.heap.size = X4
  generalize hw1 : w.alloc _ = w1
  have HK : Hid (Only None' w w1 ∧ CellsR w1 X4 suR) := Lib.hid ⟨by rw [← hw1]; exact (Only.refl None' w).alloc _, by rw [← hw1, ← hX]; exact cells_new w suR 28⟩
  have HX := Lib.hid hX
  clear hw1 hX
  refine (may_su _).mono ?_
  rintro e w2 ⟨rfl, o2⟩
  have HK2 : Hid (Only None' w w2 ∧ CellsR w2 X4 suR) := Lib.hid ⟨HK.out.1.trans o2, HK.out.2.kept o2 fun e => e⟩
  clear o2 HK
  go_wp2_with fail
  refine (new_any 1 (by omega) (by omega) _).mono ?_
  rintro e w3 ⟨Bc, Mc, rfl, hc, h1, h2, o3⟩
  have HK3 : Hid (Only None' w w3 ∧ CellsR w3 X4 suR) := Lib.hid ⟨HK2.out.1.trans o3, HK2.out.2.kept o3 fun e => e⟩
  have HC3 := Lib.hid (And.intro hc (And.intro (Nat.le_trans HK2.out.1.size h1) (Nat.le_trans HK2.out.1.size h2)))
  clear o3 HK2 hc h1 h2
  have k7 := HK3.out.2.is 7 _ rfl
  have k8 := HK3.out.2.is 8 _ rfl
  go_wp2_with fail
  refine (Lru.new_any 10 1000 _ (by omega) (by omega) (by omega) (by omega)).mono ?_
  rintro e w4 ⟨B, M, rfl, hs, o4'⟩
  have o4 := ofLru0 o4'
  have HK4 : Hid (Only None' w w4 ∧ CellsR w4 X4 suR) := Lib.hid ⟨HK3.out.1.trans o4, HK3.out.2.kept o4 fun e => e⟩
  have HC4 : Hid (CallAt w4 Bc Mc ⟨1, 0, []⟩ ∧ Lru.Shelf w3.heap.size w4 B M 10 1000 [] ∧ w.heap.size ≤ Bc ∧ w.heap.size ≤ Mc ∧ Bc < w3.heap.size ∧ Mc < w3.heap.size ∧ w.heap.size ≤ w3.heap.size) := Lib.hid ⟨HC3.out.1.new o4, hs, HC3.out.2.1, HC3.out.2.2, HC3.out.1.cells.lt, HC3.out.1.lt, HK3.out.1.size⟩
  clear o4 o4' HK3 HC3 hs k7 k8
  have k0 := HK4.out.2.is 0 _ rfl
  have k3 := HK4.out.2.is 3 _ rfl
  go_wp2_with fail
  refine (rnew_any _).mono ?_
  rintro e w5 ⟨R, T, rfl, hr, h1, h2, o5⟩
  have HK5 : Hid (Only None' w w5 ∧ CellsR w5 X4 suR) := Lib.hid ⟨HK4.out.1.trans o5, HK4.out.2.kept o5 fun e => e⟩
  have HC5 : Hid (CallAt w5 Bc Mc ⟨1, 0, []⟩ ∧ Lru.Shelf w3.heap.size w5 B M 10 1000 [] ∧ RtAt w5 R T 0 0 0 ∧ w4.heap.size ≤ R ∧ w4.heap.size ≤ T ∧ w4.heap.size ≤ w5.heap.size ∧ B < w4.heap.size ∧ M < w4.heap.size) := Lib.hid ⟨HC4.out.1.new o5, HC4.out.2.1.only (toLru o5) fun _ _ e => e, hr, h1, h2, o5.size, HC4.out.2.1.row.ltB, HC4.out.2.1.ltM⟩
  clear o5 HK4 hr h1 h2 k0 k3
  have k0 := HK5.out.2.is 0 _ rfl
  have k1 := HK5.out.2.is 1 _ rfl
  have k2 := HK5.out.2.is 2 _ rfl
  have k3 := HK5.out.2.is 3 _ rfl
  have k4 := HK5.out.2.is 4 _ rfl
  have k5 := HK5.out.2.is 5 _ rfl
  have k6 := HK5.out.2.is 6 _ rfl
  have k7 := HK5.out.2.is 7 _ rfl
  have k8 := HK5.out.2.is 8 _ rfl
  have k9 := HK5.out.2.is 9 _ rfl
  have k10 := HK5.out.2.is 10 _ rfl
  have k11 := HK5.out.2.is 11 _ rfl
  have k12 := HK5.out.2.is 12 _ rfl
  go_wp2_with fail
  go_ret2
  have o6 : Only None' w5 ((w5.alloc (.map #[] 0)).alloc (.cells (cacheR ⟨w3.heap.size, w5.heap.size + 1, B, M, Bc, Mc, w5.heap.size, R, T⟩ 0).toArray 64)) := ((Only.refl None' w5).alloc _).alloc _
  obtain ⟨hcall, hshelf, hroute, hR, hT, h45, hB, hM⟩ := HC5.out
  obtain ⟨_, hs4, g1, g2, g3, g4, g5⟩ := HC4.out
  have g6 := hs4.row.mB
  have g7 := hs4.row.mM
  have g8 := hroute.blk.lt
  have g9 := hroute.cells.2.2.2.2
  have g10 := hroute.ne
  have g11 := hcall.apart
  refine ⟨⟨w3.heap.size, w5.heap.size + 1, B, M, Bc, Mc, w5.heap.size, R, T⟩, rfl, ⟨?_, hshelf.only (toLru o6) fun _ _ e => e, hcall.new o6, ⟨_, (World.ownsMap_made w5 Try.prog 3 akR).alloc _, fun k => rfl⟩, hroute.only o6 (fun e => e) fun e => e, ?_, ?_⟩, ?_, HK5.out.1.trans o6⟩
  · have hc := cells_new (w5.alloc (.map #[] 0)) (cacheR ⟨w3.heap.size, w5.heap.size + 1, B, M, Bc, Mc, w5.heap.size, R, T⟩ 0) 64
    rw [show (w5.alloc (.map #[] 0)).heap.size = w5.heap.size + 1 by simp] at hc
    exact hc
  · rintro k (hk | hk | hk) h5
    · have hk : k = B := hk
      simp only [Bk.five] at h5
      omega
    · have hk : k = M := hk
      simp only [Bk.five] at h5
      omega
    · cases hk
  · simp only [List.nodup_cons, List.mem_cons, List.not_mem_nil, or_false, not_or, not_false_eq_true, List.nodup_nil, and_true]
    omega
  · rintro k ((hk | hk | hk) | hk)
    · have hk : k = B := hk
      omega
    · have hk : k = M := hk
      omega
    · cases hk
    · simp only [Bk.five] at hk
      omega
theorem clock_any {w : World} {b : Bk} {s : Cs} (h : CacheAt w b s) : Calls Try.prog 12 #[.pointer (some ⟨b.C, 0, none⟩)] w fun e w' => e = .returned (.int .i64 s.clock) ∧ w = w' := by
  have c14 := h.cells.c14
  clear h
  go_enter Try.func12, Try.ntmps12
  go_wp2_with fail
  go_ret
  exact ⟨rfl, rfl⟩
theorem clock_nil (w : World) : Calls Try.prog 12 #[.pointer none] w fun e w' => e = .returned (.int .i64 0) ∧ w = w' := by
  go_enter Try.func12, Try.ntmps12
  go_wp2_with fail
  go_ret
  exact ⟨rfl, rfl⟩
theorem entries_any {w : World} {b : Bk} {s : Cs} (h : CacheAt w b s) : Calls Try.prog 11 #[.pointer (some ⟨b.C, 0, none⟩)] w fun e w' => ∃ v, e = .returned v ∧ w'.ownsRow (w.heap.size + 1) 66 4 v s.l.length (Lru.ents s.l) ∧ Only None' w w' := by
  have c15 := h.cells.c15
  have HS := Lib.hid h.shelf
  clear h
  go_enter Try.func11, Try.ntmps11
  go_wp2_with fail
  refine (Lru.all_any HS.out).mono ?_
  rintro e w2 ⟨v, rfl, hv, o2⟩
  have HE := Lib.hid (And.intro hv (ofLru0 o2))
  clear hv o2
  go_wp2_with fail
  go_ret
  exact ⟨v, rfl, HE.out⟩
theorem entries_nil (w : World) : Calls Try.prog 11 #[.pointer none] w fun e w' => e = .returned (.slice none 0 0) ∧ w = w' := by
  go_enter Try.func11, Try.ntmps11
  go_wp2_with fail
  go_ret
  exact ⟨rfl, rfl⟩
theorem tick_nil (w : World) : Calls Try.prog 10 #[.pointer none] w fun e w' => e = .returned (.slice none 0 0) ∧ w = w' := by
  go_enter Try.func10, Try.ntmps10
  go_wp2_with fail
  go_ret
  exact ⟨rfl, rfl⟩
theorem hear_nil (f : Int) (m : Mg) (w : World) : Calls Try.prog 8 #[.pointer none, .int .i64 f, m.v] w fun e w' => e = .returned (.slice none 0 0) ∧ Only None' w w' := by
  unfold Mg.v
  go_enter Try.func8, Try.ntmps8
  go_wp2_with fail
  go_ret
  exact ⟨rfl, (Only.refl None' w).alloc _⟩
end Go.Proofs.Ytfmpidacklhmaaa
