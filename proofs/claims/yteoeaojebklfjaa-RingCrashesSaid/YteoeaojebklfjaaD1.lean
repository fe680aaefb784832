/- A disk in a world; what only reads it. -/
import Derived.Test.YteoeaojebklfjaaRows
import Derived.Test.YteoeaojebklfjaaD0
import Derived.Laws.ResultCell
import Derived.Deep.CutBlock
namespace Go.Proofs.Yteoeaojebklfjaa
open Go.RowKit Go.Maps
set_option linter.unusedVariables false

abbrev Ints (w : World) (B n : Nat) (M : DataW Unit) : Prop := w.ownsMap Try.prog 3 (plainElem Try.prog 3) B n M
theorem under92 : Try.prog.underlying 92 = some (.map 3 3) := by kernel_rfl
theorem keyed3 : Keyed Try.prog 3 := int_keyed Try.underlying3

/-- a disk lies in w, at D; V1, V2, VK: its slices, B: its map -/
structure Lies (w : World) (D B : Nat) (V1 V2 VK : Value) (d : Dk) : Prop where
  c0 : w.cell? ⟨D, 0, none⟩ = some V1
  c1 : w.cell? ⟨D, 1, none⟩ = some V2
  c2 : w.cell? ⟨D, 2, none⟩ = some (.map (some B))
  c3 : w.cell? ⟨D, 3, none⟩ = some (.int .i64 d.done)
  c4 : w.cell? ⟨D, 4, none⟩ = some (.bool d.dead)
  c5 : w.cell? ⟨D, 5, none⟩ = some (.bool d.set)
  c6 : w.cell? ⟨D, 6, none⟩ = some (.int .i64 d.left)
  c7 : w.cell? ⟨D, 7, none⟩ = some VK
  thaw : ∀ i, w.frozen? ⟨D, i, none⟩ = false
  ltD : D < w.heap.size
  lasts : Vec w 512 V1 d.lasts.length (d.lasts.flatMap bv)
  waits : Vec w 513 V2 d.waits.length (d.waits.flatMap wv)
  keep : Vec w 1 VK d.keep.length (bo d.keep)
  now : ∃ M, Ints w B d.waits.length M ∧ NowOf M d.waits
  DB : D ≠ B
  apart1 : ∀ k, V1.ownBlock = some k → k ≠ D ∧ k ≠ B
  apart2 : ∀ k, V2.ownBlock = some k → k ≠ D ∧ k ≠ B ∧ V1.ownBlock ≠ some k
  apartK : ∀ k, VK.ownBlock = some k → k ≠ D ∧ k ≠ B ∧ V1.ownBlock ≠ some k ∧ V2.ownBlock ≠ some k
  ok : d.Ok

/-- its blocks -/
def Foot (D B : Nat) (V1 V2 VK : Value) (k : Nat) : Prop := k = D ∨ k = B ∨ V1.ownBlock = some k ∨ V2.ownBlock = some k ∨ VK.ownBlock = some k

/-- a disk lies in w at D; its blocks are F -/
def DiskAt (w : World) (D : Nat) (F : Nat → Prop) (d : Dk) : Prop := ∃ B V1 V2 VK, Lies w D B V1 V2 VK d ∧ F = Foot D B V1 V2 VK

section
variable {w w' : World} {D B : Nat} {V1 V2 VK : Value} {d : Dk} {F : Nat → Prop}
theorem Lies.ltB (h : Lies w D B V1 V2 VK d) : B < w.heap.size := by
  obtain ⟨M, hM, _⟩ := h.now
  exact hM.lt
theorem Lies.lt (h : Lies w D B V1 V2 VK d) {k : Nat} (hk : Foot D B V1 V2 VK k) : k < w.heap.size := by
  rcases hk with rfl | rfl | h1 | h1 | h1
  · exact h.ltD
  · exact h.ltB
  · exact h.lasts.lt h1
  · exact h.waits.lt h1
  · exact h.keep.lt h1
theorem Lies.kept (h : Lies w D B V1 V2 VK d) (hs : w.heap.size ≤ w'.heap.size) (hb : ∀ k, Foot D B V1 V2 VK k → w'.heap[k]? = w.heap[k]?) : Lies w' D B V1 V2 VK d := by
  have hD : w'.heap[D]? = w.heap[D]? := hb D (.inl rfl)
  have cell (i : Nat) : w'.cell? ⟨D, i, none⟩ = w.cell? ⟨D, i, none⟩ := World.cell?_of_block (w := w) (a := ⟨D, i, none⟩) hD
  refine ⟨(cell 0).trans h.c0, (cell 1).trans h.c1, (cell 2).trans h.c2, (cell 3).trans h.c3, (cell 4).trans h.c4, (cell 5).trans h.c5, (cell 6).trans h.c6, (cell 7).trans h.c7, fun i => ?_, Nat.lt_of_lt_of_le h.ltD hs, ?_, ?_, ?_, ?_, h.DB, h.apart1, h.apart2, h.apartK, h.ok⟩
  · rw [World.frozen?_of_block (w := w) (a := ⟨D, i, none⟩) hD]; exact h.thaw i
  · exact h.lasts.kept hs fun g hg => hb g (.inr (.inr (.inl hg)))
  · exact h.waits.kept hs fun g hg => hb g (.inr (.inr (.inr (.inl hg))))
  · exact h.keep.kept hs fun g hg => hb g (.inr (.inr (.inr (.inr hg))))
  · obtain ⟨M, hM, hN⟩ := h.now
    refine ⟨M, ?_, hN⟩
    obtain ⟨es, clock, hh, hr⟩ := hM
    exact ⟨es, clock, (hb B (.inr (.inl rfl))).trans hh, hr⟩
theorem DiskAt.lt (h : DiskAt w D F d) {k : Nat} (hk : F k) : k < w.heap.size := by
  obtain ⟨B, V1, V2, VK, h1, rfl⟩ := h
  exact h1.lt hk
theorem DiskAt.has (h : DiskAt w D F d) : F D := by
  obtain ⟨B, V1, V2, VK, h1, rfl⟩ := h
  exact .inl rfl
theorem DiskAt.kept (h : DiskAt w D F d) (hs : w.heap.size ≤ w'.heap.size) (hb : ∀ k, F k → w'.heap[k]? = w.heap[k]?) : DiskAt w' D F d := by
  obtain ⟨B, V1, V2, VK, h1, rfl⟩ := h
  exact ⟨B, V1, V2, VK, h1.kept hs hb, rfl⟩
theorem DiskAt.only (h : DiskAt w D F d) {S : Nat → Prop} (ho : Only S w w') (hn : ∀ k, F k → ¬ S k) : DiskAt w' D F d :=
  h.kept ho.size fun k hk => ho.block k (h.lt hk) (hn k hk)
theorem DiskAt.new (h : DiskAt w D F d) (ho : Only None' w w') : DiskAt w' D F d := h.only ho fun _ _ h => h
theorem DiskAt.drewN (h : DiskAt w D F d) (n : Nat) : DiskAt (w.drewN n) D F d := h.kept (Nat.le_refl _) fun _ _ => rfl
theorem DiskAt.drew (h : DiskAt w D F d) : DiskAt w.drew D F d := h.kept (Nat.le_refl _) fun _ _ => rfl
theorem DiskAt.alloc (h : DiskAt w D F d) (o : Obj) : DiskAt (w.alloc o) D F d := h.new ((Only.refl _ _).alloc _)
end

/-- nobody's disk, too -/
theorem len_nil (w : World) : Calls Try.prog 24 #[.pointer none] w fun r w' => r = .returned (.int .i64 0) ∧ w' = w := by
  go_enter Try.func24, Try.ntmps24
  go_wp2
  go_ret
  exact ⟨rfl, rfl⟩
theorem waits_nil (w : World) : Calls Try.prog 20 #[.pointer none] w fun r w' => r = .returned (.int .i64 0) ∧ w' = w := by
  go_enter Try.func20, Try.ntmps20
  go_wp2
  go_ret
  exact ⟨rfl, rfl⟩
theorem done_nil (w : World) : Calls Try.prog 23 #[.pointer none] w fun r w' => r = .returned (.int .i64 0) ∧ w' = w := by
  go_enter Try.func23, Try.ntmps23
  go_wp2
  go_ret
  exact ⟨rfl, rfl⟩
theorem dead_nil (w : World) : Calls Try.prog 15 #[.pointer none] w fun r w' => r = .returned (.bool false) ∧ w' = w := by
  go_enter Try.func15, Try.ntmps15
  go_wp2
  go_ret
  exact ⟨rfl, rfl⟩
theorem alive_nil (w : World) : Calls Try.prog 56 #[.pointer none] w fun r w' => r = .returned (.int .i64 2) ∧ w' = w := by
  go_enter Try.func56, Try.ntmps56
  go_wp2
  go_ret
  exact ⟨rfl, rfl⟩

section
variable {w : World} {D : Nat} {F : Nat → Prop} {d : Dk}
theorem len_any (h : DiskAt w D F d) : Calls Try.prog 24 #[.pointer (some ⟨D, 0, none⟩)] w fun r w' => r = .returned (.int .i64 (d.lasts.length : Int)) ∧ w' = w := by
  obtain ⟨B, V1, V2, VK, h, rfl⟩ := h
  obtain ⟨a, c, rfl, _, _⟩ := h.lasts.shape
  have c0 := h.c0
  clear h
  go_enter Try.func24, Try.ntmps24
  go_wp2
  go_ret
  exact ⟨rfl, rfl⟩
theorem waits_any (h : DiskAt w D F d) : Calls Try.prog 20 #[.pointer (some ⟨D, 0, none⟩)] w fun r w' => r = .returned (.int .i64 (d.waits.length : Int)) ∧ w' = w := by
  obtain ⟨B, V1, V2, VK, h, rfl⟩ := h
  obtain ⟨a, c, rfl, _, _⟩ := h.waits.shape
  have c1 := h.c1
  clear h
  go_enter Try.func20, Try.ntmps20
  go_wp2
  go_ret
  exact ⟨rfl, rfl⟩
theorem done_any (h : DiskAt w D F d) : Calls Try.prog 23 #[.pointer (some ⟨D, 0, none⟩)] w fun r w' => r = .returned (.int .i64 d.done) ∧ w' = w := by
  obtain ⟨B, V1, V2, VK, h, rfl⟩ := h
  have c3 := h.c3
  clear h
  go_enter Try.func23, Try.ntmps23
  go_wp2
  go_ret
  exact ⟨rfl, rfl⟩
theorem dead_any (h : DiskAt w D F d) : Calls Try.prog 15 #[.pointer (some ⟨D, 0, none⟩)] w fun r w' => r = .returned (.bool d.dead) ∧ w' = w := by
  obtain ⟨B, V1, V2, VK, h, rfl⟩ := h
  have c4 := h.c4
  clear h
  go_enter Try.func15, Try.ntmps15
  go_wp2
  go_ret
  exact ⟨rfl, rfl⟩
/-- what alive says -/
def Dk.errno (d : Dk) : Int := if d.dead then 20 else 0
theorem alive_any (h : DiskAt w D F d) : Calls Try.prog 56 #[.pointer (some ⟨D, 0, none⟩)] w fun r w' => r = .returned (.int .i64 d.errno) ∧ w' = w := by
  obtain ⟨B, V1, V2, VK, h, rfl⟩ := h
  have c4 := h.c4
  unfold Dk.errno
  clear h
  cases hd : d.dead
  · rw [hd] at c4
    go_enter Try.func56, Try.ntmps56
    go_wp2
    go_ret
    exact ⟨rfl, rfl⟩
  · rw [hd] at c4
    go_enter Try.func56, Try.ntmps56
    go_wp2
    go_ret
    exact ⟨rfl, rfl⟩
end
end Go.Proofs.Yteoeaojebklfjaa
