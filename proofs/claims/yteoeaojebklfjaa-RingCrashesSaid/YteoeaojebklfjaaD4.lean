/- A disk's cells and the rest; burns; Fuse. -/
import Derived.Test.YteoeaojebklfjaaD3
namespace Go.Proofs.Yteoeaojebklfjaa
open Go.RowKit Go.Maps
set_option linter.unusedVariables false

/-- the eight cells -/
structure Cells8 (w : World) (D : Nat) (u0 u1 u2 u3 u4 u5 u6 u7 : Value) : Prop where
  c0 : w.cell? ⟨D, 0, none⟩ = some u0
  c1 : w.cell? ⟨D, 1, none⟩ = some u1
  c2 : w.cell? ⟨D, 2, none⟩ = some u2
  c3 : w.cell? ⟨D, 3, none⟩ = some u3
  c4 : w.cell? ⟨D, 4, none⟩ = some u4
  c5 : w.cell? ⟨D, 5, none⟩ = some u5
  c6 : w.cell? ⟨D, 6, none⟩ = some u6
  c7 : w.cell? ⟨D, 7, none⟩ = some u7
  thaw : ∀ i, w.frozen? ⟨D, i, none⟩ = false
  ltD : D < w.heap.size

/-- what lies elsewhere -/
structure Rest (w : World) (D B : Nat) (V1 V2 VK : Value) (d : Dk) : Prop where
  lasts : Vec w 512 V1 d.lasts.length (d.lasts.flatMap bv)
  waits : Vec w 513 V2 d.waits.length (d.waits.flatMap wv)
  keep : Vec w 1 VK d.keep.length (bo d.keep)
  now : ∃ M, Ints w B d.waits.length M ∧ NowOf M d.waits
  DB : D ≠ B
  apart1 : ∀ k, V1.ownBlock = some k → k ≠ D ∧ k ≠ B
  apart2 : ∀ k, V2.ownBlock = some k → k ≠ D ∧ k ≠ B ∧ V1.ownBlock ≠ some k
  apartK : ∀ k, VK.ownBlock = some k → k ≠ D ∧ k ≠ B ∧ V1.ownBlock ≠ some k ∧ V2.ownBlock ≠ some k
  ok : d.Ok

section
variable {w w' : World} {D B : Nat} {V1 V2 VK : Value} {d d' : Dk} {F : Nat → Prop} {u0 u1 u2 u3 u4 u5 u6 u7 : Value}
theorem Lies.cells (h : Lies w D B V1 V2 VK d) : Cells8 w D V1 V2 (.map (some B)) (.int .i64 d.done) (.bool d.dead) (.bool d.set) (.int .i64 d.left) VK := ⟨h.c0, h.c1, h.c2, h.c3, h.c4, h.c5, h.c6, h.c7, h.thaw, h.ltD⟩
theorem Lies.rest (h : Lies w D B V1 V2 VK d) : Rest w D B V1 V2 VK d := ⟨h.lasts, h.waits, h.keep, h.now, h.DB, h.apart1, h.apart2, h.apartK, h.ok⟩
theorem Lies.join (c : Cells8 w D V1 V2 (.map (some B)) (.int .i64 d.done) (.bool d.dead) (.bool d.set) (.int .i64 d.left) VK) (h : Rest w D B V1 V2 VK d) : Lies w D B V1 V2 VK d :=
  ⟨c.c0, c.c1, c.c2, c.c3, c.c4, c.c5, c.c6, c.c7, c.thaw, c.ltD, h.lasts, h.waits, h.keep, h.now, h.DB, h.apart1, h.apart2, h.apartK, h.ok⟩
theorem Cells8.kept (c : Cells8 w D u0 u1 u2 u3 u4 u5 u6 u7) (hs : w.heap.size ≤ w'.heap.size) (hD : w'.heap[D]? = w.heap[D]?) : Cells8 w' D u0 u1 u2 u3 u4 u5 u6 u7 := by
  have cell (i : Nat) : w'.cell? ⟨D, i, none⟩ = w.cell? ⟨D, i, none⟩ := World.cell?_of_block (w := w) (a := ⟨D, i, none⟩) hD
  exact ⟨(cell 0).trans c.c0, (cell 1).trans c.c1, (cell 2).trans c.c2, (cell 3).trans c.c3, (cell 4).trans c.c4, (cell 5).trans c.c5, (cell 6).trans c.c6, (cell 7).trans c.c7, fun i => by rw [World.frozen?_of_block (w := w) (a := ⟨D, i, none⟩) hD]; exact c.thaw i, Nat.lt_of_lt_of_le c.ltD hs⟩
theorem Cells8.only (c : Cells8 w D u0 u1 u2 u3 u4 u5 u6 u7) {S : Nat → Prop} (ho : Only S w w') (hn : ¬ S D) : Cells8 w' D u0 u1 u2 u3 u4 u5 u6 u7 := c.kept ho.size (ho.block D c.ltD hn)
theorem cell_aside (w : World) (D i j : Nat) (v : Value) (h : i ≠ j) : (w.setCell ⟨D, i, none⟩ v).cell? ⟨D, j, none⟩ = w.cell? ⟨D, j, none⟩ := World.cell?_setCell_other _ _ _ _ (off_ne h)
theorem thaw_set {w : World} {D : Nat} (h : ∀ i, w.frozen? ⟨D, i, none⟩ = false) (i : Nat) (v : Value) : ∀ j, (w.setCell ⟨D, i, none⟩ v).frozen? ⟨D, j, none⟩ = false := fun j => by rw [World.frozen?_setCell]; exact h j
theorem Cells8.set0 (c : Cells8 w D u0 u1 u2 u3 u4 u5 u6 u7) (v : Value) : Cells8 (w.setCell ⟨D, 0, none⟩ v) D v u1 u2 u3 u4 u5 u6 u7 :=
  ⟨World.cell?_setCell_same _ _ _ c.c0, (cell_aside _ _ _ _ _ (by decide)).trans c.c1, (cell_aside _ _ _ _ _ (by decide)).trans c.c2, (cell_aside _ _ _ _ _ (by decide)).trans c.c3, (cell_aside _ _ _ _ _ (by decide)).trans c.c4, (cell_aside _ _ _ _ _ (by decide)).trans c.c5, (cell_aside _ _ _ _ _ (by decide)).trans c.c6, (cell_aside _ _ _ _ _ (by decide)).trans c.c7, thaw_set c.thaw _ _, by rw [heap_size_setCell]; exact c.ltD⟩
theorem Cells8.set1 (c : Cells8 w D u0 u1 u2 u3 u4 u5 u6 u7) (v : Value) : Cells8 (w.setCell ⟨D, 1, none⟩ v) D u0 v u2 u3 u4 u5 u6 u7 :=
  ⟨(cell_aside _ _ _ _ _ (by decide)).trans c.c0, World.cell?_setCell_same _ _ _ c.c1, (cell_aside _ _ _ _ _ (by decide)).trans c.c2, (cell_aside _ _ _ _ _ (by decide)).trans c.c3, (cell_aside _ _ _ _ _ (by decide)).trans c.c4, (cell_aside _ _ _ _ _ (by decide)).trans c.c5, (cell_aside _ _ _ _ _ (by decide)).trans c.c6, (cell_aside _ _ _ _ _ (by decide)).trans c.c7, thaw_set c.thaw _ _, by rw [heap_size_setCell]; exact c.ltD⟩
theorem Cells8.set2 (c : Cells8 w D u0 u1 u2 u3 u4 u5 u6 u7) (v : Value) : Cells8 (w.setCell ⟨D, 2, none⟩ v) D u0 u1 v u3 u4 u5 u6 u7 :=
  ⟨(cell_aside _ _ _ _ _ (by decide)).trans c.c0, (cell_aside _ _ _ _ _ (by decide)).trans c.c1, World.cell?_setCell_same _ _ _ c.c2, (cell_aside _ _ _ _ _ (by decide)).trans c.c3, (cell_aside _ _ _ _ _ (by decide)).trans c.c4, (cell_aside _ _ _ _ _ (by decide)).trans c.c5, (cell_aside _ _ _ _ _ (by decide)).trans c.c6, (cell_aside _ _ _ _ _ (by decide)).trans c.c7, thaw_set c.thaw _ _, by rw [heap_size_setCell]; exact c.ltD⟩
theorem Cells8.set3 (c : Cells8 w D u0 u1 u2 u3 u4 u5 u6 u7) (v : Value) : Cells8 (w.setCell ⟨D, 3, none⟩ v) D u0 u1 u2 v u4 u5 u6 u7 :=
  ⟨(cell_aside _ _ _ _ _ (by decide)).trans c.c0, (cell_aside _ _ _ _ _ (by decide)).trans c.c1, (cell_aside _ _ _ _ _ (by decide)).trans c.c2, World.cell?_setCell_same _ _ _ c.c3, (cell_aside _ _ _ _ _ (by decide)).trans c.c4, (cell_aside _ _ _ _ _ (by decide)).trans c.c5, (cell_aside _ _ _ _ _ (by decide)).trans c.c6, (cell_aside _ _ _ _ _ (by decide)).trans c.c7, thaw_set c.thaw _ _, by rw [heap_size_setCell]; exact c.ltD⟩
theorem Cells8.set4 (c : Cells8 w D u0 u1 u2 u3 u4 u5 u6 u7) (v : Value) : Cells8 (w.setCell ⟨D, 4, none⟩ v) D u0 u1 u2 u3 v u5 u6 u7 :=
  ⟨(cell_aside _ _ _ _ _ (by decide)).trans c.c0, (cell_aside _ _ _ _ _ (by decide)).trans c.c1, (cell_aside _ _ _ _ _ (by decide)).trans c.c2, (cell_aside _ _ _ _ _ (by decide)).trans c.c3, World.cell?_setCell_same _ _ _ c.c4, (cell_aside _ _ _ _ _ (by decide)).trans c.c5, (cell_aside _ _ _ _ _ (by decide)).trans c.c6, (cell_aside _ _ _ _ _ (by decide)).trans c.c7, thaw_set c.thaw _ _, by rw [heap_size_setCell]; exact c.ltD⟩
theorem Cells8.set5 (c : Cells8 w D u0 u1 u2 u3 u4 u5 u6 u7) (v : Value) : Cells8 (w.setCell ⟨D, 5, none⟩ v) D u0 u1 u2 u3 u4 v u6 u7 :=
  ⟨(cell_aside _ _ _ _ _ (by decide)).trans c.c0, (cell_aside _ _ _ _ _ (by decide)).trans c.c1, (cell_aside _ _ _ _ _ (by decide)).trans c.c2, (cell_aside _ _ _ _ _ (by decide)).trans c.c3, (cell_aside _ _ _ _ _ (by decide)).trans c.c4, World.cell?_setCell_same _ _ _ c.c5, (cell_aside _ _ _ _ _ (by decide)).trans c.c6, (cell_aside _ _ _ _ _ (by decide)).trans c.c7, thaw_set c.thaw _ _, by rw [heap_size_setCell]; exact c.ltD⟩
theorem Cells8.set6 (c : Cells8 w D u0 u1 u2 u3 u4 u5 u6 u7) (v : Value) : Cells8 (w.setCell ⟨D, 6, none⟩ v) D u0 u1 u2 u3 u4 u5 v u7 :=
  ⟨(cell_aside _ _ _ _ _ (by decide)).trans c.c0, (cell_aside _ _ _ _ _ (by decide)).trans c.c1, (cell_aside _ _ _ _ _ (by decide)).trans c.c2, (cell_aside _ _ _ _ _ (by decide)).trans c.c3, (cell_aside _ _ _ _ _ (by decide)).trans c.c4, (cell_aside _ _ _ _ _ (by decide)).trans c.c5, World.cell?_setCell_same _ _ _ c.c6, (cell_aside _ _ _ _ _ (by decide)).trans c.c7, thaw_set c.thaw _ _, by rw [heap_size_setCell]; exact c.ltD⟩
theorem Cells8.set7 (c : Cells8 w D u0 u1 u2 u3 u4 u5 u6 u7) (v : Value) : Cells8 (w.setCell ⟨D, 7, none⟩ v) D u0 u1 u2 u3 u4 u5 u6 v :=
  ⟨(cell_aside _ _ _ _ _ (by decide)).trans c.c0, (cell_aside _ _ _ _ _ (by decide)).trans c.c1, (cell_aside _ _ _ _ _ (by decide)).trans c.c2, (cell_aside _ _ _ _ _ (by decide)).trans c.c3, (cell_aside _ _ _ _ _ (by decide)).trans c.c4, (cell_aside _ _ _ _ _ (by decide)).trans c.c5, (cell_aside _ _ _ _ _ (by decide)).trans c.c6, World.cell?_setCell_same _ _ _ c.c7, thaw_set c.thaw _ _, by rw [heap_size_setCell]; exact c.ltD⟩

/-- the rest stands, whatever becomes of D, and of new blocks -/
theorem Rest.kept (h : Rest w D B V1 V2 VK d) (hs : w.heap.size ≤ w'.heap.size) (hb : ∀ k, k ≠ D → k < w.heap.size → w'.heap[k]? = w.heap[k]?) : Rest w' D B V1 V2 VK d := by
  refine ⟨h.lasts.kept hs fun g hg => hb g (h.apart1 g hg).1 (h.lasts.lt hg), h.waits.kept hs fun g hg => hb g (h.apart2 g hg).1 (h.waits.lt hg), h.keep.kept hs fun g hg => hb g (h.apartK g hg).1 (h.keep.lt hg), ?_, h.DB, h.apart1, h.apart2, h.apartK, h.ok⟩
  obtain ⟨M, hM, hN⟩ := h.now
  refine ⟨M, ?_, hN⟩
  have hB := hb B (fun e => h.DB e.symm) hM.lt
  obtain ⟨es, clock, hh, hr⟩ := hM
  exact ⟨es, clock, hB.trans hh, hr⟩
theorem Rest.only (h : Rest w D B V1 V2 VK d) (ho : Only (fun k => k = D) w w') : Rest w' D B V1 V2 VK d := h.kept ho.size fun k hk hl => ho.block k hl hk
theorem Rest.of (h : Rest w D B V1 V2 VK d) (hl : d'.lasts = d.lasts) (hw : d'.waits = d.waits) (hk : d'.keep = d.keep) : Rest w D B V1 V2 VK d' := by
  obtain ⟨l, ws, dn, de, st, le, kp⟩ := d
  obtain ⟨l', ws', dn', de', st', le', kp'⟩ := d'
  simp only at hl hw hk
  subst hl hw hk
  exact ⟨h.lasts, h.waits, h.keep, h.now, h.DB, h.apart1, h.apart2, h.apartK, ⟨h.ok.lasts, h.ok.waits, h.ok.many⟩⟩
end

/-- the fuse is at its end -/
def Dk.due (d : Dk) : Bool := d.set && decide (d.left = 0)
/-- one more is done -/
def Dk.tick (d : Dk) : Dk := { d with left := d.left - 1, done := d.done + 1 }

theorem burns_due {w : World} {D : Nat} {F : Nat → Prop} {d : Dk} (h : DiskAt w D F d) (hd : d.due = true) :
    Calls Try.prog 58 #[.pointer (some ⟨D, 0, none⟩)] w fun r w' => r = .returned (.bool true) ∧ w' = w := by
  obtain ⟨B, V1, V2, VK, h, rfl⟩ := h
  have c5 := h.c5
  have c6 := h.c6
  simp only [Dk.due, Bool.and_eq_true, decide_eq_true_eq] at hd
  rw [hd.1] at c5
  rw [hd.2] at c6
  clear h hd
  go_enter Try.func58, Try.ntmps58
  go_wp2
  go_ret
  exact ⟨rfl, rfl⟩

theorem Lies.ticked {w : World} {D B : Nat} {V1 V2 VK : Value} {d : Dk} (h : Lies w D B V1 V2 VK d) (hl : -1000000 ≤ d.left) (hl' : d.left ≤ 9223372036854775807) (h0 : 0 ≤ d.done) (h0' : d.done ≤ 1000000) :
    DiskAt ((w.setCell ⟨D, 6, none⟩ (.int .i64 (wrap64 (d.left - 1)))).setCell ⟨D, 3, none⟩ (.int .i64 (wrap64 (d.done + 1)))) D (Foot D B V1 V2 VK) d.tick ∧
      Only (fun k => k = D) w ((w.setCell ⟨D, 6, none⟩ (.int .i64 (wrap64 (d.left - 1)))).setCell ⟨D, 3, none⟩ (.int .i64 (wrap64 (d.done + 1)))) := by
  have ho : Only (fun k => k = D) w ((w.setCell ⟨D, 6, none⟩ (.int .i64 (wrap64 (d.left - 1)))).setCell ⟨D, 3, none⟩ (.int .i64 (wrap64 (d.done + 1)))) := ((Only.refl (fun k => k = D) w).setCell (p := ⟨D, 6, none⟩) rfl _).setCell (p := ⟨D, 3, none⟩) rfl _
  refine ⟨⟨B, V1, V2, VK, Lies.join ?_ ((h.rest.only ho).of rfl rfl rfl), rfl⟩, ho⟩
  have hc := (h.cells.set6 (.int .i64 (wrap64 (d.left - 1)))).set3 (.int .i64 (wrap64 (d.done + 1)))
  rw [IntWalk.wrap64_in (d.left - 1) (by omega), IntWalk.wrap64_in (d.done + 1) (by omega)] at hc ⊢
  exact hc

theorem burns_not {w : World} {D : Nat} {F : Nat → Prop} {d : Dk} (h : DiskAt w D F d) (hd : d.due = false) (hl : -1000000 ≤ d.left) (hl' : d.left ≤ 9223372036854775807) (h0 : 0 ≤ d.done) (h0' : d.done ≤ 1000000) :
    Calls Try.prog 58 #[.pointer (some ⟨D, 0, none⟩)] w fun r w' => r = .returned (.bool false) ∧ DiskAt w' D F d.tick ∧ Only (fun k => k = D) w w' := by
  obtain ⟨B, V1, V2, VK, h, rfl⟩ := h
  have HT := Lib.hid (h.ticked hl hl' h0 h0')
  have c5 := h.c5
  have c6 := h.c6
  have c3 := h.c3
  have thaw := h.thaw
  clear h hl hl' h0 h0'
  unfold Dk.due at hd
  cases hs : d.set
  · rw [hs] at c5
    clear hd hs
    go_enter Try.func58, Try.ntmps58
    go_wp2
    go_ret
    exact ⟨rfl, HT.out⟩
  · rw [hs] at c5 hd
    have hne : ¬ d.left = 0 := by simpa using hd
    clear hd hs
    go_enter Try.func58, Try.ntmps58
    go_wp2
    go_ret
    exact ⟨rfl, HT.out⟩

/-- a fuse of k -/
def Dk.fused (d : Dk) (k : Nat) (keep : List Bool) : Dk := { d with set := true, left := (k : Int), keep := keep }

theorem bo_one (l : List Bool) : ∀ u ∈ bo l, u.oneCell' = true := by
  intro u hu
  obtain ⟨c, _, rfl⟩ := List.mem_map.1 hu
  rfl

theorem fuse_dead {w : World} {D : Nat} {F : Nat → Prop} {d : Dk} (h : DiskAt w D F d) (hd : d.dead = true) (k : Int) (v : Value) :
    Calls Try.prog 14 #[.pointer (some ⟨D, 0, none⟩), .int .i64 k, v] w fun r w' => r = .returned (.int .i64 20) ∧ w' = w := by
  have hc := alive_any h
  rw [show d.errno = 20 by unfold Dk.errno; rw [if_pos hd]] at hc
  clear h hd
  go_enter Try.func14, Try.ntmps14
  go_wp2_with fail
  refine hc.mono ?_
  rintro r w1 ⟨rfl, rfl⟩
  clear hc
  go_wp2_with fail
  go_ret
  exact ⟨rfl, rfl⟩

theorem fuse_neg {w : World} {D : Nat} {F : Nat → Prop} {d : Dk} (h : DiskAt w D F d) (hd : d.dead = false) (k : Int) (hk : k < 0) (v : Value) :
    Calls Try.prog 14 #[.pointer (some ⟨D, 0, none⟩), .int .i64 k, v] w fun r w' => r = .returned (.int .i64 1) ∧ w' = w := by
  have hc := alive_any h
  rw [show d.errno = 0 by unfold Dk.errno; rw [if_neg (by simp [hd])]] at hc
  clear h hd
  go_enter Try.func14, Try.ntmps14
  go_wp2_with fail
  refine hc.mono ?_
  rintro r w1 ⟨rfl, rfl⟩
  clear hc
  go_wp2_with fail
  go_ret
  exact ⟨rfl, rfl⟩

theorem Lies.fused {w w2 : World} {D B : Nat} {V1 V2 VK : Value} {d : Dk} (h : Lies w D B V1 V2 VK d) (c : Cells8 w2 D V1 V2 (.map (some B)) (.int .i64 d.done) (.bool d.dead) (.bool d.set) (.int .i64 d.left) VK) {v v' : Value} {n : Nat} {keep : List Bool} (hc : Cloned w w2 1 v v' n (bo keep)) (k : Nat) :
    ∃ F', DiskAt (((w2.setCell ⟨D, 5, none⟩ (.bool true)).setCell ⟨D, 6, none⟩ (.int .i64 (k : Int))).setCell ⟨D, 7, none⟩ v') D F' (d.fused k keep) ∧
      Kept (Foot D B V1 V2 VK) F' w (((w2.setCell ⟨D, 5, none⟩ (.bool true)).setCell ⟨D, 6, none⟩ (.int .i64 (k : Int))).setCell ⟨D, 7, none⟩ v') := by
  have hn : keep.length = n := by have := hc.vec.len; simpa [bo] using this
  have ho : Only (fun k => k = D) w2 (((w2.setCell ⟨D, 5, none⟩ (.bool true)).setCell ⟨D, 6, none⟩ (.int .i64 (k : Int))).setCell ⟨D, 7, none⟩ v') := (((Only.refl (fun k => k = D) w2).setCell (p := ⟨D, 5, none⟩) rfl _).setCell (p := ⟨D, 6, none⟩) rfl _).setCell (p := ⟨D, 7, none⟩) rfl _
  have h3 := (h.rest.only (hc.only.mono fun _ _ h => h.elim)).only ho
  have hv : ∀ g, v'.ownBlock = some g → ¬ g = D := fun g hg e => by have := hc.fresh g hg; have := h.ltD; omega
  refine ⟨Foot D B V1 V2 v', ⟨B, V1, V2, v', Lies.join (((c.set5 _).set6 _).set7 _) ⟨h3.lasts, h3.waits, ?_, h3.now, h3.DB, h3.apart1, h3.apart2, ?_, ⟨h3.ok.lasts, h3.ok.waits, h3.ok.many⟩⟩, rfl⟩, ⟨(hc.only.mono fun _ _ h => h.elim).trans (ho.mono fun k _ h => .inl h), fun j hj => ?_⟩⟩
  · show Vec _ 1 v' keep.length (bo keep)
    rw [hn]
    exact hc.vec.only ho hv
  · intro j hj
    have hf := hc.fresh j hj
    exact ⟨hv j hj, fun e => by have := h.ltB; omega, fun e => by have := h.lasts.lt e; omega, fun e => by have := h.waits.lt e; omega⟩
  · rcases hj with hj | hj | hj | hj | hj
    · exact .inl (.inl hj)
    · exact .inl (.inr (.inl hj))
    · exact .inl (.inr (.inr (.inl hj)))
    · exact .inl (.inr (.inr (.inr (.inl hj))))
    · exact .inr (hc.fresh j hj)

theorem fuse_any {w : World} {D : Nat} {F : Nat → Prop} {d : Dk} (h : DiskAt w D F d) (hd : d.dead = false) (k : Nat) {v : Value} {n : Nat} {keep : List Bool} (hv : Rd w 1 v n (bo keep)) (hn : n ≤ 140737488351232) :
    Calls Try.prog 14 #[.pointer (some ⟨D, 0, none⟩), .int .i64 (k : Int), v] w fun r w' => r = .returned (.int .i64 0) ∧ ∃ F', DiskAt w' D F' (d.fused k keep) ∧ Kept F F' w w' := by
  have hc := alive_any h
  rw [show d.errno = 0 by unfold Dk.errno; rw [if_neg (by simp [hd])]] at hc
  have hcl := clone_bools hv (bo_one keep) hn
  have hk : ¬ (k : Int) < 0 := by omega
  obtain ⟨B, V1, V2, VK, h, rfl⟩ := h
  have H := Lib.hid h
  have HV := Lib.hid hv
  clear h hv hn hd
  go_enter Try.func14, Try.ntmps14
  go_wp2_with fail
  refine hc.mono ?_
  rintro r w1 ⟨rfl, rfl⟩
  clear hc
  go_wp2_with fail
  refine hcl.mono ?_
  rintro r w2 ⟨v', rfl, hC⟩
  obtain ⟨a', c', rfl, _, _⟩ := hC.vec.shape
  clear hcl
  have HC := Lib.hid hC
  have C2 := Lib.hid (H.out.cells.only hC.only (fun h => h))
  have c5 := C2.out.c5
  have c6 := C2.out.c6
  have c7 := C2.out.c7
  have thaw := C2.out.thaw
  clear hC
  go_wp2_with fail
  go_ret
  exact ⟨rfl, H.out.fused C2.out HC.out k⟩
end Go.Proofs.Yteoeaojebklfjaa
