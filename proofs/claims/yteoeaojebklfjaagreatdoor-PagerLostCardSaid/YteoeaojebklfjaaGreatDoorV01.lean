/- D1 D2 D3 D4 P1 in one text. -/
import Derived.Test.YteoeaojebklfjaaGreatDoorRows
import Derived.Test.YteoeaojebklfjaaGreatDoorV00
import Derived.Laws.ResultCell
import Derived.Deep.CutBlock
import Derived.Lib.SliceRun
namespace Go.Proofs.YteoeaojebklfjaaGreatDoor
open Go.RowKit Go.Maps
set_option linter.unusedVariables false

abbrev Ints (w : World) (B n : Nat) (M : DataW Unit) : Prop := w.ownsMap Tryz.prog 3 (plainElem Tryz.prog 3) B n M
theorem under92 : Tryz.prog.underlying 102 = some (.map 3 3) := by kernel_rfl
theorem keyed3 : Keyed Tryz.prog 3 := int_keyed Tryz.underlying3

structure Lies (w : World) (D B : Nat) (V1 V2 VK : Value) (d : Dk) : Prop where
  c0 : w.cell? ⟨D, 0, none⟩ = some V1
  c1 : w.cell? ⟨D, 1, none⟩ = some V2
  c2 : w.cell? ⟨D, 2, none⟩ = some (.map (some B))
  c3 : w.cell? ⟨D, 3, none⟩ = some (.int .i64 d.done)
  c4 : w.cell? ⟨D, 4, none⟩ = some (.bool d.dead)
  c5 : w.cell? ⟨D, 5, none⟩ = some (.bool d.set)
  c6 : w.cell? ⟨D, 6, none⟩ = some (.int .i64 d.left)
  c7 : w.cell? ⟨D, 7, none⟩ = some VK
  thaw : ∀ i, w.frozen? ⟨D, i, none⟩ = false
  ltD : D < w.heap.size
  lasts : Vec w 512 V1 d.lasts.length (d.lasts.flatMap bv)
  waits : Vec w 513 V2 d.waits.length (d.waits.flatMap wv)
  keep : Vec w 1 VK d.keep.length (bo d.keep)
  now : ∃ M, Ints w B d.waits.length M ∧ NowOf M d.waits
  DB : D ≠ B
  apart1 : ∀ k, V1.ownBlock = some k → k ≠ D ∧ k ≠ B
  apart2 : ∀ k, V2.ownBlock = some k → k ≠ D ∧ k ≠ B ∧ V1.ownBlock ≠ some k
  apartK : ∀ k, VK.ownBlock = some k → k ≠ D ∧ k ≠ B ∧ V1.ownBlock ≠ some k ∧ V2.ownBlock ≠ some k
  ok : d.Ok

def Foot (D B : Nat) (V1 V2 VK : Value) (k : Nat) : Prop := k = D ∨ k = B ∨ V1.ownBlock = some k ∨ V2.ownBlock = some k ∨ VK.ownBlock = some k

def DiskAt (w : World) (D : Nat) (F : Nat → Prop) (d : Dk) : Prop := ∃ B V1 V2 VK, Lies w D B V1 V2 VK d ∧ F = Foot D B V1 V2 VK

section
variable {w w' : World} {D B : Nat} {V1 V2 VK : Value} {d : Dk} {F : Nat → Prop}
theorem Lies.ltB (h : Lies w D B V1 V2 VK d) : B < w.heap.size := by
  obtain ⟨M, hM, _⟩ := h.now
  exact hM.lt
theorem Lies.lt (h : Lies w D B V1 V2 VK d) {k : Nat} (hk : Foot D B V1 V2 VK k) : k < w.heap.size := by
  rcases hk with rfl | rfl | h1 | h1 | h1
  · exact h.ltD
  · exact h.ltB
  · exact h.lasts.lt h1
  · exact h.waits.lt h1
  · exact h.keep.lt h1
theorem Lies.kept (h : Lies w D B V1 V2 VK d) (hs : w.heap.size ≤ w'.heap.size) (hb : ∀ k, Foot D B V1 V2 VK k → w'.heap[k]? = w.heap[k]?) : Lies w' D B V1 V2 VK d := by
  have hD : w'.heap[D]? = w.heap[D]? := hb D (.inl rfl)
  have cell (i : Nat) : w'.cell? ⟨D, i, none⟩ = w.cell? ⟨D, i, none⟩ := World.cell?_of_block (w := w) (a := ⟨D, i, none⟩) hD
  refine ⟨(cell 0).trans h.c0, (cell 1).trans h.c1, (cell 2).trans h.c2, (cell 3).trans h.c3, (cell 4).trans h.c4, (cell 5).trans h.c5, (cell 6).trans h.c6, (cell 7).trans h.c7, fun i => ?_, Nat.lt_of_lt_of_le h.ltD hs, ?_, ?_, ?_, ?_, h.DB, h.apart1, h.apart2, h.apartK, h.ok⟩
  · rw [World.frozen?_of_block (w := w) (a := ⟨D, i, none⟩) hD]; exact h.thaw i
  · exact h.lasts.kept hs fun g hg => hb g (.inr (.inr (.inl hg)))
  · exact h.waits.kept hs fun g hg => hb g (.inr (.inr (.inr (.inl hg))))
  · exact h.keep.kept hs fun g hg => hb g (.inr (.inr (.inr (.inr hg))))
  · obtain ⟨M, hM, hN⟩ := h.now
    refine ⟨M, ?_, hN⟩
    obtain ⟨es, clock, hh, hr⟩ := hM
    exact ⟨es, clock, (hb B (.inr (.inl rfl))).trans hh, hr⟩
theorem DiskAt.lt (h : DiskAt w D F d) {k : Nat} (hk : F k) : k < w.heap.size := by
  obtain ⟨B, V1, V2, VK, h1, rfl⟩ := h
  exact h1.lt hk
theorem DiskAt.has (h : DiskAt w D F d) : F D := by
  obtain ⟨B, V1, V2, VK, h1, rfl⟩ := h
  exact .inl rfl
theorem DiskAt.kept (h : DiskAt w D F d) (hs : w.heap.size ≤ w'.heap.size) (hb : ∀ k, F k → w'.heap[k]? = w.heap[k]?) : DiskAt w' D F d := by
  obtain ⟨B, V1, V2, VK, h1, rfl⟩ := h
  exact ⟨B, V1, V2, VK, h1.kept hs hb, rfl⟩
theorem DiskAt.only (h : DiskAt w D F d) {S : Nat → Prop} (ho : Only S w w') (hn : ∀ k, F k → ¬ S k) : DiskAt w' D F d :=
  h.kept ho.size fun k hk => ho.block k (h.lt hk) (hn k hk)
theorem DiskAt.new (h : DiskAt w D F d) (ho : Only None' w w') : DiskAt w' D F d := h.only ho fun _ _ h => h
theorem DiskAt.drewN (h : DiskAt w D F d) (n : Nat) : DiskAt (w.drewN n) D F d := h.kept (Nat.le_refl _) fun _ _ => rfl
theorem DiskAt.drew (h : DiskAt w D F d) : DiskAt w.drew D F d := h.kept (Nat.le_refl _) fun _ _ => rfl
theorem DiskAt.alloc (h : DiskAt w D F d) (o : Obj) : DiskAt (w.alloc o) D F d := h.new ((Only.refl _ _).alloc _)
end

theorem len_nil (w : World) : Calls Tryz.prog 41 #[.pointer none] w fun r w' => r = .returned (.int .i64 0) ∧ w' = w := by
  go_enter Tryz.func41, Tryz.ntmps41
  go_wp2
  go_ret
  exact ⟨rfl, rfl⟩
theorem dead_nil (w : World) : Calls Tryz.prog 32 #[.pointer none] w fun r w' => r = .returned (.bool false) ∧ w' = w := by
  go_enter Tryz.func32, Tryz.ntmps32
  go_wp2
  go_ret
  exact ⟨rfl, rfl⟩
theorem alive_nil (w : World) : Calls Tryz.prog 68 #[.pointer none] w fun r w' => r = .returned (.int .i64 2) ∧ w' = w := by
  go_enter Tryz.func68, Tryz.ntmps68
  go_wp2
  go_ret
  exact ⟨rfl, rfl⟩

section
variable {w : World} {D : Nat} {F : Nat → Prop} {d : Dk}
theorem len_any (h : DiskAt w D F d) : Calls Tryz.prog 41 #[.pointer (some ⟨D, 0, none⟩)] w fun r w' => r = .returned (.int .i64 (d.lasts.length : Int)) ∧ w' = w := by
  obtain ⟨B, V1, V2, VK, h, rfl⟩ := h
  obtain ⟨a, c, rfl, _, _⟩ := h.lasts.shape
  have c0 := h.c0
  clear h
  go_enter Tryz.func41, Tryz.ntmps41
  go_wp2
  go_ret
  exact ⟨rfl, rfl⟩
theorem dead_any (h : DiskAt w D F d) : Calls Tryz.prog 32 #[.pointer (some ⟨D, 0, none⟩)] w fun r w' => r = .returned (.bool d.dead) ∧ w' = w := by
  obtain ⟨B, V1, V2, VK, h, rfl⟩ := h
  have c4 := h.c4
  clear h
  go_enter Tryz.func32, Tryz.ntmps32
  go_wp2
  go_ret
  exact ⟨rfl, rfl⟩
def Dk.errno (d : Dk) : Int := if d.dead then 20 else 0
theorem alive_any (h : DiskAt w D F d) : Calls Tryz.prog 68 #[.pointer (some ⟨D, 0, none⟩)] w fun r w' => r = .returned (.int .i64 d.errno) ∧ w' = w := by
  obtain ⟨B, V1, V2, VK, h, rfl⟩ := h
  have c4 := h.c4
  unfold Dk.errno
  clear h
  cases hd : d.dead
  · rw [hd] at c4
    go_enter Tryz.func68, Tryz.ntmps68
    go_wp2
    go_ret
    exact ⟨rfl, rfl⟩
  · rw [hd] at c4
    go_enter Tryz.func68, Tryz.ntmps68
    go_wp2
    go_ret
    exact ⟨rfl, rfl⟩
end
end Go.Proofs.YteoeaojebklfjaaGreatDoor
namespace Go.Proofs.YteoeaojebklfjaaGreatDoor
open Go.RowKit Go.Maps
set_option linter.unusedVariables false

def zs : Sec := List.replicate 512 0
theorem zero100 : Tryz.zeroCells110 = Array.replicate 512 (.int .u8 0) := by kernel_rfl
theorem bv_replicate (n : Nat) (c : UInt8) : bv (List.replicate n c) = List.replicate n (.int .u8 (c.toNat : Int)) := by simp [bv]
theorem zs_bv : bv zs = List.replicate 512 (.int .u8 0) := bv_replicate 512 0
theorem flat_replicate (v : Value) (k : Nat) : ∀ n, (List.replicate n zs).flatMap bv = List.replicate (n * 512) (.int .u8 0)
  | 0 => by simp
  | n + 1 => by
    rw [List.replicate_succ, List.flatMap_cons, flat_replicate v k n, zs_bv, Nat.add_mul, Nat.one_mul, Nat.add_comm (n * 512)]
    exact List.replicate_append_replicate ..
theorem made100 (n : Nat) : (madeCells Tryz.zeroCells110 (n * 512)).toList = (List.replicate n zs).flatMap bv := by
  rw [flat_replicate (.int .u8 0) 0 n, zero100]
  apply List.ext_getElem
  · simp [size_madeCells]
  · intro i h1 h2
    have : i % 512 < 512 := Nat.mod_lt _ (by decide)
    simp [madeCells, this]

def Dk.new (n : Nat) : Dk := ⟨List.replicate n zs, [], 0, false, false, 0, []⟩
theorem Dk.new_ok {n : Nat} (h : n ≤ 65536) : (Dk.new n).Ok := ⟨fun s hs => by rw [(List.mem_replicate.1 hs).2]; exact List.length_replicate, fun p hp => by simp [Dk.new] at hp, by simpa [Dk.new] using h⟩

theorem new_bad (n : Int) (w : World) (h : n < 1 ∨ 65536 < n) : Calls Tryz.prog 26 #[.int .i64 n] w fun r w' => r = .returned (.tuple #[.pointer none, .int .i64 1]) ∧ w' = w := by
  have H := Lib.hid h
  clear h
  by_cases h1 : n < 1
  · go_enter Tryz.func26, Tryz.ntmps26
    go_wp2
    go_ret2
    exact ⟨rfl, rfl⟩
  · have h2 : (65536 : Int) < n := by have := H.out; omega
    go_enter Tryz.func26, Tryz.ntmps26
    go_wp2
    go_ret2
    exact ⟨rfl, rfl⟩

theorem info100 : Tryz.prog.info? 110 = some Tryz.t110 := by kernel_rfl
theorem t100_zero : Tryz.t110.zero = some (.agg Tryz.zeroCells110) := by kernel_rfl
theorem t100_size : Tryz.t110.size = 512 := by kernel_rfl
theorem t100_bytes : Tryz.t110.bytes = 512 := by kernel_rfl

theorem fresh_disk {w1 : World} {V1 : Value} {L : List Sec} (hv : Vec w1 512 V1 L.length (L.flatMap bv)) (hL : ∀ s ∈ L, s.length = 512) (hm : L.length ≤ 65536) :
    DiskAt ((w1.alloc (.map #[] 0)).alloc (.cells #[V1, .slice none 0 0, .map (some w1.heap.size), .int .i64 0, .bool false, .bool false, .int .i64 0, .slice none 0 0] 107)) (w1.heap.size + 1) (Foot (w1.heap.size + 1) w1.heap.size V1 (.slice none 0 0) (.slice none 0 0)) ⟨L, [], 0, false, false, 0, []⟩ := by
  have hs : (w1.alloc (.map #[] 0)).heap.size = w1.heap.size + 1 := by simp
  have hb (i : Nat) := World.cell?_alloc_new (w1.alloc (.map #[] 0)) #[V1, .slice none 0 0, .map (some w1.heap.size), .int .i64 0, .bool false, .bool false, .int .i64 0, .slice none 0 0] 107 i
  have hf (i : Nat) := World.frozen?_alloc_new (w1.alloc (.map #[] 0)) #[V1, .slice none 0 0, .map (some w1.heap.size), .int .i64 0, .bool false, .bool false, .int .i64 0, .slice none 0 0] 107 i
  rw [hs] at hb hf
  exact ⟨_, _, _, _, ⟨hb 0, hb 1, hb 2, hb 3, hb 4, hb 5, hb 6, hb 7, hf, by simp, (hv.alloc _).alloc _, Vec.nil _ _, Vec.nil _ _, ⟨.map [], (World.ownsMap_made w1 Tryz.prog 3 _).alloc _, NowOf.nil⟩, by omega,
    (fun k hk => by have := hv.lt hk; omega), (fun k hk => by cases hk), (fun k hk => by cases hk), ⟨hL, fun p hp => by simp at hp, hm⟩⟩, rfl⟩

theorem new_any (n : Nat) (w : World) (h1 : 1 ≤ n) (h2 : n ≤ 65536) : Calls Tryz.prog 26 #[.int .i64 (n : Int)] w fun r w' => ∃ D F, r = .returned (.tuple #[.pointer (some ⟨D, 0, none⟩), .int .i64 0]) ∧ DiskAt w' D F (Dk.new n) ∧ (∀ k, F k → w.heap.size ≤ k) ∧ Only None' w w' := by
  have a1 : ¬ (n : Int) < 1 := by omega
  have a2 : ¬ (65536 : Int) < n := by omega
  have H := Lib.hid (And.intro h1 h2)
  have hmm := @run_makeMap Tryz.prog
  clear h1 h2
  go_enter Tryz.func26, Tryz.ntmps26
  go_wp2_with (at_make; refine wpList_make_full _ rfl _ _ 101 rfl w.heap.size 110 Tryz.t110 (.agg Tryz.zeroCells110) 512 Tryz.underlying101 info100 t100_zero t100_size .i64 .i64 (n : Int) (n : Int) n rfl rfl rfl rfl (by rw [t100_bytes]; have := H.out; omega) (by have := H.out; unfold maxLen; omega) (Nat.le_refl _) ?_; intro w1 hown hgrow)
  go_ret2
  have a2' := H.out.2
  have hn : n = (List.replicate n zs).length := by simp
  have hv := Vec.of_owns hown
  rw [show (Value.agg Tryz.zeroCells110).cells = Tryz.zeroCells110 from rfl, made100] at hv
  have hd := fresh_disk (L := List.replicate n zs) (by rw [← hn]; exact hv) (fun s hs => by rw [(List.mem_replicate.1 hs).2]; exact List.length_replicate) (by rw [← hn]; exact a2')
  refine ⟨_, rfl, _, hd, ?_, ((((Only.refl None' w).grown hgrow (by simp)).alloc _).alloc _)⟩
  have := hgrow.size
  intro k hk
  rcases hk with rfl | rfl | hk | hk | hk
  · omega
  · omega
  · simp only [Value.ownBlock, Option.some.injEq] at hk; omega
  · cases hk
  · cases hk

def sec (c : UInt8) : Sec := List.replicate 512 c
theorem info5 : Tryz.prog.info? 5 = some Tryz.t5 := by kernel_rfl
theorem t5_zero : Tryz.t5.zero = some (.int .u8 0) := by kernel_rfl
theorem t5_size : Tryz.t5.size = 1 := by kernel_rfl
theorem t5_bytes : Tryz.t5.bytes = 1 := by kernel_rfl

theorem Vec.free {w : World} {size n g off cap : Nat} {xs : List Value} (h : Vec w size (.slice (some ⟨g, off, none⟩) n cap) n xs) {k : Nat} (hk : k < n * size) : (w.cell? ⟨g, off + k, none⟩).isSome = true ∧ w.frozen? ⟨g, off + k, none⟩ = false := by
  have := h.there (o := 0) (k := n * size) (by omega) k hk
  rwa [Nat.add_zero] at this
theorem Vec.free0 {w : World} {size n g cap : Nat} {xs : List Value} (h : Vec w size (.slice (some ⟨g, 0, none⟩) n cap) n xs) {k : Nat} (hk : k < n * size) : (w.cell? ⟨g, k, none⟩).isSome = true ∧ w.frozen? ⟨g, k, none⟩ = false := by
  have := h.free hk
  rwa [Nat.zero_add] at this
theorem Vec.set1 {w : World} {n g cap : Nat} {xs : List Value} (h : Vec w 1 (.slice (some ⟨g, 0, none⟩) n cap) n xs) {k : Nat} (hk : k < n) (v : Value) : Vec (w.setCell ⟨g, k, none⟩ v) 1 (.slice (some ⟨g, 0, none⟩) n cap) n (xs.set k v) := by
  have h1 := h.put (o := k) (vs := [v]) (by simp; omega)
  have hl := h.len
  rw [Nat.zero_add, List.length_singleton] at h1
  rw [List.set_eq_take_append_cons_drop, if_pos (by omega)]
  simpa [World.setCells] using h1

def half (c : UInt8) (k : Nat) : List Value := List.replicate k (.int .u8 (c.toNat : Int)) ++ List.replicate (512 - k) (.int .u8 0)

theorem half_set (c : UInt8) {k : Nat} (h : k < 512) : (half c k).set k (.int .u8 (c.toNat : Int)) = half c (k + 1) := by
  unfold half
  obtain ⟨m, hm⟩ : ∃ m, 512 - k = m + 1 := ⟨511 - k, by omega⟩
  have e : 512 - (k + 1) = m := by omega
  rw [hm, e, List.set_append_right _ _ (by simp), List.length_replicate, Nat.sub_self, List.replicate_succ, List.set_cons_zero, List.replicate_succ', List.append_assoc]
  rfl
theorem half_all (c : UInt8) : half c 512 = bv (sec c) := by
  rw [sec, bv_replicate]
  exact List.append_nil _

end Go.Proofs.YteoeaojebklfjaaGreatDoor
namespace Go.Proofs.YteoeaojebklfjaaGreatDoor
open Go.RowKit Go.Maps
set_option linter.unusedVariables false

theorem info102 : Tryz.prog.info? 113 = some Tryz.t113 := by kernel_rfl
theorem zsize100 : (Value.agg Tryz.zeroCells110).cells.size = 512 := by kernel_rfl
theorem t102_zero : Tryz.t113.zero = some (.agg Tryz.zeroCells113) := by kernel_rfl
theorem t102_size : Tryz.t113.size = 513 := by kernel_rfl
theorem t102_bytes : Tryz.t113.bytes = 520 := by kernel_rfl
theorem zsize102 : (Value.agg Tryz.zeroCells113).cells.size = 513 := by kernel_rfl
theorem info4 : Tryz.prog.info? 4 = some Tryz.t4 := by kernel_rfl

structure Cloned (w w' : World) (size : Nat) (v v' : Value) (n : Nat) (xs : List Value) : Prop where
  vec : Vec w' size v' n xs
  fresh : ∀ k, v'.ownBlock = some k → w.heap.size ≤ k
  only : Only None' w w'

theorem eql_nil (ty e : TypeId) (ht : Tryz.prog.underlying ty = some (.slice e)) (w : World) (a : Option Addr) (n c : Nat) : (binOp .eql ty (.slice a n c) (.slice none 0 0)).run Tryz.prog w = .ok (.bool a.isNone) w := Lib.run_eql_slice_nil w _ _ a n c 0 0 ht

theorem read_later {w : World} {g off : Nat} {xs : List Value} (h : ∀ j u, xs[j]? = some u → w.cell? ⟨g, off + j, none⟩ = some u) (o : Obj) : ∀ j u, xs[j]? = some u → (w.alloc o).cell? ((⟨g, off, none⟩ : Addr).add j) = some u := by
  intro j u hu
  rw [add_mid' (⟨g, off, none⟩) j rfl]
  exact Lib.cell?_alloc_some _ (h j u hu)

theorem cloned {w w1 : World} {size n g off cap : Nat} {v' : Value} {xs : List Value} {o : Obj} (hv : Vec w1 size v' (0 + n) ([] ++ xs)) (hg : (w.alloc o).grownBy w1 (some w.heap.size)) (hf : ∀ k, v'.ownBlock = some k → some w.heap.size = some k ∨ (w.alloc o).heap.size ≤ k) : Cloned w w1 size (.slice (some ⟨g, off, none⟩) n cap) v' n xs := by
  rw [Nat.zero_add, List.nil_append] at hv
  refine ⟨hv, fun k hk => ?_, Only.of_below (((Below.refl _ w).alloc (Nat.le_refl _) o).grown hg (by simp) (by intro k hk; injection hk with hk; omega)) _⟩
  rcases hf k hk with h | h
  · injection h with h; omega
  · simp at h; omega

theorem made_nil (w : World) (e : TypeId) (size : Nat) : Vec (w.alloc (.cells #[] e)) size (.slice (some ⟨w.heap.size, 0, none⟩) 0 0) 0 [] :=
  ⟨by simp, .inr ⟨w.heap.size, 0, 0, rfl, Nat.le_refl _, Nat.zero_le _, by simp, fun j u hu => by simp at hu, fun j hj => by omega⟩⟩

theorem cloned' {w w1 : World} {size n : Nat} {v v' : Value} {xs : List Value} {o : Obj} (hv : Vec w1 size v' (0 + n) ([] ++ xs)) (hg : (w.alloc o).grownBy w1 (some w.heap.size)) (hf : ∀ k, v'.ownBlock = some k → some w.heap.size = some k ∨ (w.alloc o).heap.size ≤ k) : Cloned w w1 size v v' n xs := by
  have := cloned (g := 0) (off := 0) (cap := 0) hv hg hf
  exact ⟨this.vec, this.fresh, this.only⟩

theorem clone_bools {w : World} {v : Value} {n : Nat} {xs : List Value} (h : Rd w 1 v n xs) (h1 : ∀ u ∈ xs, u.oneCell' = true) (hn : n ≤ 140737488351232) : Calls Tryz.prog 72 #[v] w fun r w' => ∃ v', r = .returned v' ∧ Cloned w w' 1 v v' n xs := by
  have q23 := eql_nil 43 4 Tryz.underlying43
  rcases h.form with ⟨rfl, rfl⟩ | ⟨ad, cap, rfl, g1, g2, g4⟩
  · have H := Lib.hid h
    clear h h1
    go_enter Tryz.func72, Tryz.ntmps72
    go_wp2
    go_ret
    have hx : xs = [] := by have := H.out.len; simpa using this
    subst hx
    exact ⟨_, rfl, ⟨Vec.nil _ _, fun k hk => (by cases hk), Only.refl _ _⟩⟩
  · have H := Lib.hid (And.intro h (And.intro h1 hn))
    have G : Hid (∀ j u, xs[j]? = some u → (w.alloc (.cells #[] 4)).cell? (ad.add j) = some u) := fun j u hu => Lib.cell?_alloc_some _ (g4 j u hu)
    clear h h1 hn g4
    go_enter Tryz.func72, Tryz.ntmps72
    go_wp2_with (at_builtin; go_loud (refine wpList_vec_append _ rfl _ _ 43 rfl 4 Tryz.t4 (.bool false) 1 1 Tryz.underlying43 info4 (by kernel_rfl) (by kernel_rfl) (by kernel_rfl) rfl (by decide) _ _ _ rfl (made_nil w _ _) ad n cap xs rfl H.out.1.len G.out H.out.2.1 (by have := H.out.2.2; unfold maxLen; omega) (by have := H.out.2.2; omega) ?_; intro v' w1 hv hg hf))
    go_ret
    exact ⟨_, rfl, cloned' hv hg hf⟩

theorem clone_bytes {w : World} {v : Value} {n : Nat} {xs : List Value} (h : Vec w 1 v n xs) (h1 : ∀ u ∈ xs, u.oneCell' = true) (hn : n ≤ 1000000) : Calls Tryz.prog 57 #[v] w fun r w' => ∃ v', r = .returned v' ∧ Cloned w w' 1 v v' n xs := by
  have q23 := eql_nil 35 5 Tryz.underlying35
  rcases h.form with ⟨rfl, rfl⟩ | ⟨g, off, cap, rfl, g1, g2, g3, g4, g5⟩
  · have H := Lib.hid h
    clear h h1
    go_enter Tryz.func57, Tryz.ntmps57
    go_wp2
    go_ret
    exact ⟨_, rfl, ⟨H.out, fun k hk => (by cases hk), Only.refl _ _⟩⟩
  · have H := Lib.hid (And.intro h (And.intro h1 hn))
    have G := Lib.hid (read_later g4 (.cells #[] 5))
    clear h h1 hn g4 g5
    go_enter Tryz.func57, Tryz.ntmps57
    go_wp2_with (at_builtin; go_loud (refine wpList_vec_append _ rfl _ _ 35 rfl 5 Tryz.t5 (.int .u8 0) 1 1 Tryz.underlying35 info5 t5_zero t5_size t5_bytes rfl (by decide) _ _ _ rfl (made_nil w _ _) ⟨g, off, none⟩ n cap xs rfl H.out.1.len G.out H.out.2.1 (by have := H.out.2.2; unfold maxLen; omega) (by have := H.out.2.2; omega) ?_; intro v' w1 hv hg hf))
    go_ret
    exact ⟨_, rfl, cloned hv hg hf⟩

theorem clone_secs {w : World} {v : Value} {n : Nat} {xs : List Value} (h : Vec w 512 v n xs) (h1 : ∀ u ∈ xs, u.oneCell' = true) (hn : n ≤ 1000000) : Calls Tryz.prog 73 #[v] w fun r w' => ∃ v', r = .returned v' ∧ Cloned w w' 512 v v' n xs := by
  have q23 := eql_nil 101 110 Tryz.underlying101
  rcases h.form with ⟨rfl, rfl⟩ | ⟨g, off, cap, rfl, g1, g2, g3, g4, g5⟩
  · have H := Lib.hid h
    clear h h1
    go_enter Tryz.func73, Tryz.ntmps73
    go_wp2
    go_ret
    exact ⟨_, rfl, ⟨H.out, fun k hk => (by cases hk), Only.refl _ _⟩⟩
  · have H := Lib.hid (And.intro h (And.intro h1 hn))
    have G := Lib.hid (read_later g4 (.cells #[] 110))
    clear h h1 hn g4 g5
    go_enter Tryz.func73, Tryz.ntmps73
    go_wp2_with (at_builtin; go_loud (refine wpList_vec_append _ rfl _ _ 101 rfl 110 Tryz.t110 (.agg Tryz.zeroCells110) 512 512 Tryz.underlying101 info100 t100_zero t100_size t100_bytes zsize100 (by decide) _ _ _ rfl (made_nil w _ _) ⟨g, off, none⟩ n cap xs rfl H.out.1.len G.out H.out.2.1 (by have := H.out.2.2; unfold maxLen; omega) (by have := H.out.2.2; omega) ?_; intro v' w1 hv hg hf))
    go_ret
    exact ⟨_, rfl, cloned hv hg hf⟩

theorem fuse_nil (k : Int) (v : Value) (w : World) : Calls Tryz.prog 31 #[.pointer none, .int .i64 k, v] w fun r w' => r = .returned (.int .i64 2) ∧ w' = w := by
  have hc := alive_nil w
  go_enter Tryz.func31, Tryz.ntmps31
  go_wp2_with fail
  refine hc.mono ?_
  rintro r w1 ⟨rfl, rfl⟩
  clear hc
  go_wp2_with fail
  go_ret
  exact ⟨rfl, rfl⟩

end Go.Proofs.YteoeaojebklfjaaGreatDoor
namespace Go.Proofs.YteoeaojebklfjaaGreatDoor
open Go.RowKit Go.Maps
set_option linter.unusedVariables false

structure Cells8 (w : World) (D : Nat) (u0 u1 u2 u3 u4 u5 u6 u7 : Value) : Prop where
  c0 : w.cell? ⟨D, 0, none⟩ = some u0
  c1 : w.cell? ⟨D, 1, none⟩ = some u1
  c2 : w.cell? ⟨D, 2, none⟩ = some u2
  c3 : w.cell? ⟨D, 3, none⟩ = some u3
  c4 : w.cell? ⟨D, 4, none⟩ = some u4
  c5 : w.cell? ⟨D, 5, none⟩ = some u5
  c6 : w.cell? ⟨D, 6, none⟩ = some u6
  c7 : w.cell? ⟨D, 7, none⟩ = some u7
  thaw : ∀ i, w.frozen? ⟨D, i, none⟩ = false
  ltD : D < w.heap.size

structure Rest (w : World) (D B : Nat) (V1 V2 VK : Value) (d : Dk) : Prop where
  lasts : Vec w 512 V1 d.lasts.length (d.lasts.flatMap bv)
  waits : Vec w 513 V2 d.waits.length (d.waits.flatMap wv)
  keep : Vec w 1 VK d.keep.length (bo d.keep)
  now : ∃ M, Ints w B d.waits.length M ∧ NowOf M d.waits
  DB : D ≠ B
  apart1 : ∀ k, V1.ownBlock = some k → k ≠ D ∧ k ≠ B
  apart2 : ∀ k, V2.ownBlock = some k → k ≠ D ∧ k ≠ B ∧ V1.ownBlock ≠ some k
  apartK : ∀ k, VK.ownBlock = some k → k ≠ D ∧ k ≠ B ∧ V1.ownBlock ≠ some k ∧ V2.ownBlock ≠ some k
  ok : d.Ok

section
variable {w w' : World} {D B : Nat} {V1 V2 VK : Value} {d d' : Dk} {F : Nat → Prop} {u0 u1 u2 u3 u4 u5 u6 u7 : Value}
theorem Lies.cells (h : Lies w D B V1 V2 VK d) : Cells8 w D V1 V2 (.map (some B)) (.int .i64 d.done) (.bool d.dead) (.bool d.set) (.int .i64 d.left) VK := ⟨h.c0, h.c1, h.c2, h.c3, h.c4, h.c5, h.c6, h.c7, h.thaw, h.ltD⟩
theorem Lies.rest (h : Lies w D B V1 V2 VK d) : Rest w D B V1 V2 VK d := ⟨h.lasts, h.waits, h.keep, h.now, h.DB, h.apart1, h.apart2, h.apartK, h.ok⟩
theorem Lies.join (c : Cells8 w D V1 V2 (.map (some B)) (.int .i64 d.done) (.bool d.dead) (.bool d.set) (.int .i64 d.left) VK) (h : Rest w D B V1 V2 VK d) : Lies w D B V1 V2 VK d :=
  ⟨c.c0, c.c1, c.c2, c.c3, c.c4, c.c5, c.c6, c.c7, c.thaw, c.ltD, h.lasts, h.waits, h.keep, h.now, h.DB, h.apart1, h.apart2, h.apartK, h.ok⟩
theorem Cells8.kept (c : Cells8 w D u0 u1 u2 u3 u4 u5 u6 u7) (hs : w.heap.size ≤ w'.heap.size) (hD : w'.heap[D]? = w.heap[D]?) : Cells8 w' D u0 u1 u2 u3 u4 u5 u6 u7 := by
  have cell (i : Nat) : w'.cell? ⟨D, i, none⟩ = w.cell? ⟨D, i, none⟩ := World.cell?_of_block (w := w) (a := ⟨D, i, none⟩) hD
  exact ⟨(cell 0).trans c.c0, (cell 1).trans c.c1, (cell 2).trans c.c2, (cell 3).trans c.c3, (cell 4).trans c.c4, (cell 5).trans c.c5, (cell 6).trans c.c6, (cell 7).trans c.c7, fun i => by rw [World.frozen?_of_block (w := w) (a := ⟨D, i, none⟩) hD]; exact c.thaw i, Nat.lt_of_lt_of_le c.ltD hs⟩
theorem Cells8.only (c : Cells8 w D u0 u1 u2 u3 u4 u5 u6 u7) {S : Nat → Prop} (ho : Only S w w') (hn : ¬ S D) : Cells8 w' D u0 u1 u2 u3 u4 u5 u6 u7 := c.kept ho.size (ho.block D c.ltD hn)
theorem cell_aside (w : World) (D i j : Nat) (v : Value) (h : i ≠ j) : (w.setCell ⟨D, i, none⟩ v).cell? ⟨D, j, none⟩ = w.cell? ⟨D, j, none⟩ := World.cell?_setCell_other _ _ _ _ (off_ne h)
theorem thaw_set {w : World} {D : Nat} (h : ∀ i, w.frozen? ⟨D, i, none⟩ = false) (i : Nat) (v : Value) : ∀ j, (w.setCell ⟨D, i, none⟩ v).frozen? ⟨D, j, none⟩ = false := fun j => by rw [World.frozen?_setCell]; exact h j
theorem Cells8.set0 (c : Cells8 w D u0 u1 u2 u3 u4 u5 u6 u7) (v : Value) : Cells8 (w.setCell ⟨D, 0, none⟩ v) D v u1 u2 u3 u4 u5 u6 u7 :=
  ⟨World.cell?_setCell_same _ _ _ c.c0, (cell_aside _ _ _ _ _ (by decide)).trans c.c1, (cell_aside _ _ _ _ _ (by decide)).trans c.c2, (cell_aside _ _ _ _ _ (by decide)).trans c.c3, (cell_aside _ _ _ _ _ (by decide)).trans c.c4, (cell_aside _ _ _ _ _ (by decide)).trans c.c5, (cell_aside _ _ _ _ _ (by decide)).trans c.c6, (cell_aside _ _ _ _ _ (by decide)).trans c.c7, thaw_set c.thaw _ _, by rw [heap_size_setCell]; exact c.ltD⟩
theorem Cells8.set1 (c : Cells8 w D u0 u1 u2 u3 u4 u5 u6 u7) (v : Value) : Cells8 (w.setCell ⟨D, 1, none⟩ v) D u0 v u2 u3 u4 u5 u6 u7 :=
  ⟨(cell_aside _ _ _ _ _ (by decide)).trans c.c0, World.cell?_setCell_same _ _ _ c.c1, (cell_aside _ _ _ _ _ (by decide)).trans c.c2, (cell_aside _ _ _ _ _ (by decide)).trans c.c3, (cell_aside _ _ _ _ _ (by decide)).trans c.c4, (cell_aside _ _ _ _ _ (by decide)).trans c.c5, (cell_aside _ _ _ _ _ (by decide)).trans c.c6, (cell_aside _ _ _ _ _ (by decide)).trans c.c7, thaw_set c.thaw _ _, by rw [heap_size_setCell]; exact c.ltD⟩
theorem Cells8.set2 (c : Cells8 w D u0 u1 u2 u3 u4 u5 u6 u7) (v : Value) : Cells8 (w.setCell ⟨D, 2, none⟩ v) D u0 u1 v u3 u4 u5 u6 u7 :=
  ⟨(cell_aside _ _ _ _ _ (by decide)).trans c.c0, (cell_aside _ _ _ _ _ (by decide)).trans c.c1, World.cell?_setCell_same _ _ _ c.c2, (cell_aside _ _ _ _ _ (by decide)).trans c.c3, (cell_aside _ _ _ _ _ (by decide)).trans c.c4, (cell_aside _ _ _ _ _ (by decide)).trans c.c5, (cell_aside _ _ _ _ _ (by decide)).trans c.c6, (cell_aside _ _ _ _ _ (by decide)).trans c.c7, thaw_set c.thaw _ _, by rw [heap_size_setCell]; exact c.ltD⟩
theorem Cells8.set3 (c : Cells8 w D u0 u1 u2 u3 u4 u5 u6 u7) (v : Value) : Cells8 (w.setCell ⟨D, 3, none⟩ v) D u0 u1 u2 v u4 u5 u6 u7 :=
  ⟨(cell_aside _ _ _ _ _ (by decide)).trans c.c0, (cell_aside _ _ _ _ _ (by decide)).trans c.c1, (cell_aside _ _ _ _ _ (by decide)).trans c.c2, World.cell?_setCell_same _ _ _ c.c3, (cell_aside _ _ _ _ _ (by decide)).trans c.c4, (cell_aside _ _ _ _ _ (by decide)).trans c.c5, (cell_aside _ _ _ _ _ (by decide)).trans c.c6, (cell_aside _ _ _ _ _ (by decide)).trans c.c7, thaw_set c.thaw _ _, by rw [heap_size_setCell]; exact c.ltD⟩
theorem Cells8.set4 (c : Cells8 w D u0 u1 u2 u3 u4 u5 u6 u7) (v : Value) : Cells8 (w.setCell ⟨D, 4, none⟩ v) D u0 u1 u2 u3 v u5 u6 u7 :=
  ⟨(cell_aside _ _ _ _ _ (by decide)).trans c.c0, (cell_aside _ _ _ _ _ (by decide)).trans c.c1, (cell_aside _ _ _ _ _ (by decide)).trans c.c2, (cell_aside _ _ _ _ _ (by decide)).trans c.c3, World.cell?_setCell_same _ _ _ c.c4, (cell_aside _ _ _ _ _ (by decide)).trans c.c5, (cell_aside _ _ _ _ _ (by decide)).trans c.c6, (cell_aside _ _ _ _ _ (by decide)).trans c.c7, thaw_set c.thaw _ _, by rw [heap_size_setCell]; exact c.ltD⟩
theorem Cells8.set5 (c : Cells8 w D u0 u1 u2 u3 u4 u5 u6 u7) (v : Value) : Cells8 (w.setCell ⟨D, 5, none⟩ v) D u0 u1 u2 u3 u4 v u6 u7 :=
  ⟨(cell_aside _ _ _ _ _ (by decide)).trans c.c0, (cell_aside _ _ _ _ _ (by decide)).trans c.c1, (cell_aside _ _ _ _ _ (by decide)).trans c.c2, (cell_aside _ _ _ _ _ (by decide)).trans c.c3, (cell_aside _ _ _ _ _ (by decide)).trans c.c4, World.cell?_setCell_same _ _ _ c.c5, (cell_aside _ _ _ _ _ (by decide)).trans c.c6, (cell_aside _ _ _ _ _ (by decide)).trans c.c7, thaw_set c.thaw _ _, by rw [heap_size_setCell]; exact c.ltD⟩
theorem Cells8.set6 (c : Cells8 w D u0 u1 u2 u3 u4 u5 u6 u7) (v : Value) : Cells8 (w.setCell ⟨D, 6, none⟩ v) D u0 u1 u2 u3 u4 u5 v u7 :=
  ⟨(cell_aside _ _ _ _ _ (by decide)).trans c.c0, (cell_aside _ _ _ _ _ (by decide)).trans c.c1, (cell_aside _ _ _ _ _ (by decide)).trans c.c2, (cell_aside _ _ _ _ _ (by decide)).trans c.c3, (cell_aside _ _ _ _ _ (by decide)).trans c.c4, (cell_aside _ _ _ _ _ (by decide)).trans c.c5, World.cell?_setCell_same _ _ _ c.c6, (cell_aside _ _ _ _ _ (by decide)).trans c.c7, thaw_set c.thaw _ _, by rw [heap_size_setCell]; exact c.ltD⟩
theorem Cells8.set7 (c : Cells8 w D u0 u1 u2 u3 u4 u5 u6 u7) (v : Value) : Cells8 (w.setCell ⟨D, 7, none⟩ v) D u0 u1 u2 u3 u4 u5 u6 v :=
  ⟨(cell_aside _ _ _ _ _ (by decide)).trans c.c0, (cell_aside _ _ _ _ _ (by decide)).trans c.c1, (cell_aside _ _ _ _ _ (by decide)).trans c.c2, (cell_aside _ _ _ _ _ (by decide)).trans c.c3, (cell_aside _ _ _ _ _ (by decide)).trans c.c4, (cell_aside _ _ _ _ _ (by decide)).trans c.c5, (cell_aside _ _ _ _ _ (by decide)).trans c.c6, World.cell?_setCell_same _ _ _ c.c7, thaw_set c.thaw _ _, by rw [heap_size_setCell]; exact c.ltD⟩

theorem Rest.kept (h : Rest w D B V1 V2 VK d) (hs : w.heap.size ≤ w'.heap.size) (hb : ∀ k, k ≠ D → k < w.heap.size → w'.heap[k]? = w.heap[k]?) : Rest w' D B V1 V2 VK d := by
  refine ⟨h.lasts.kept hs fun g hg => hb g (h.apart1 g hg).1 (h.lasts.lt hg), h.waits.kept hs fun g hg => hb g (h.apart2 g hg).1 (h.waits.lt hg), h.keep.kept hs fun g hg => hb g (h.apartK g hg).1 (h.keep.lt hg), ?_, h.DB, h.apart1, h.apart2, h.apartK, h.ok⟩
  obtain ⟨M, hM, hN⟩ := h.now
  refine ⟨M, ?_, hN⟩
  have hB := hb B (fun e => h.DB e.symm) hM.lt
  obtain ⟨es, clock, hh, hr⟩ := hM
  exact ⟨es, clock, hB.trans hh, hr⟩
theorem Rest.only (h : Rest w D B V1 V2 VK d) (ho : Only (fun k => k = D) w w') : Rest w' D B V1 V2 VK d := h.kept ho.size fun k hk hl => ho.block k hl hk
theorem Rest.of (h : Rest w D B V1 V2 VK d) (hl : d'.lasts = d.lasts) (hw : d'.waits = d.waits) (hk : d'.keep = d.keep) : Rest w D B V1 V2 VK d' := by
  obtain ⟨l, ws, dn, de, st, le, kp⟩ := d
  obtain ⟨l', ws', dn', de', st', le', kp'⟩ := d'
  simp only at hl hw hk
  subst hl hw hk
  exact ⟨h.lasts, h.waits, h.keep, h.now, h.DB, h.apart1, h.apart2, h.apartK, ⟨h.ok.lasts, h.ok.waits, h.ok.many⟩⟩
end

def Dk.due (d : Dk) : Bool := d.set && decide (d.left = 0)
def Dk.tick (d : Dk) : Dk := { d with left := d.left - 1, done := d.done + 1 }

theorem burns_due {w : World} {D : Nat} {F : Nat → Prop} {d : Dk} (h : DiskAt w D F d) (hd : d.due = true) :
    Calls Tryz.prog 69 #[.pointer (some ⟨D, 0, none⟩)] w fun r w' => r = .returned (.bool true) ∧ w' = w := by
  obtain ⟨B, V1, V2, VK, h, rfl⟩ := h
  have c5 := h.c5
  have c6 := h.c6
  simp only [Dk.due, Bool.and_eq_true, decide_eq_true_eq] at hd
  rw [hd.1] at c5
  rw [hd.2] at c6
  clear h hd
  go_enter Tryz.func69, Tryz.ntmps69
  go_wp2
  go_ret
  exact ⟨rfl, rfl⟩

theorem Lies.ticked {w : World} {D B : Nat} {V1 V2 VK : Value} {d : Dk} (h : Lies w D B V1 V2 VK d) (hl : -1000000 ≤ d.left) (hl' : d.left ≤ 9223372036854775807) (h0 : 0 ≤ d.done) (h0' : d.done ≤ 1000000) :
    DiskAt ((w.setCell ⟨D, 6, none⟩ (.int .i64 (wrap64 (d.left - 1)))).setCell ⟨D, 3, none⟩ (.int .i64 (wrap64 (d.done + 1)))) D (Foot D B V1 V2 VK) d.tick ∧
      Only (fun k => k = D) w ((w.setCell ⟨D, 6, none⟩ (.int .i64 (wrap64 (d.left - 1)))).setCell ⟨D, 3, none⟩ (.int .i64 (wrap64 (d.done + 1)))) := by
  have ho : Only (fun k => k = D) w ((w.setCell ⟨D, 6, none⟩ (.int .i64 (wrap64 (d.left - 1)))).setCell ⟨D, 3, none⟩ (.int .i64 (wrap64 (d.done + 1)))) := ((Only.refl (fun k => k = D) w).setCell (p := ⟨D, 6, none⟩) rfl _).setCell (p := ⟨D, 3, none⟩) rfl _
  refine ⟨⟨B, V1, V2, VK, Lies.join ?_ ((h.rest.only ho).of rfl rfl rfl), rfl⟩, ho⟩
  have hc := (h.cells.set6 (.int .i64 (wrap64 (d.left - 1)))).set3 (.int .i64 (wrap64 (d.done + 1)))
  rw [IntWalk.wrap64_in (d.left - 1) (by omega), IntWalk.wrap64_in (d.done + 1) (by omega)] at hc ⊢
  exact hc

theorem burns_not {w : World} {D : Nat} {F : Nat → Prop} {d : Dk} (h : DiskAt w D F d) (hd : d.due = false) (hl : -1000000 ≤ d.left) (hl' : d.left ≤ 9223372036854775807) (h0 : 0 ≤ d.done) (h0' : d.done ≤ 1000000) :
    Calls Tryz.prog 69 #[.pointer (some ⟨D, 0, none⟩)] w fun r w' => r = .returned (.bool false) ∧ DiskAt w' D F d.tick ∧ Only (fun k => k = D) w w' := by
  obtain ⟨B, V1, V2, VK, h, rfl⟩ := h
  have HT := Lib.hid (h.ticked hl hl' h0 h0')
  have c5 := h.c5
  have c6 := h.c6
  have c3 := h.c3
  have thaw := h.thaw
  clear h hl hl' h0 h0'
  unfold Dk.due at hd
  cases hs : d.set
  · rw [hs] at c5
    clear hd hs
    go_enter Tryz.func69, Tryz.ntmps69
    go_wp2
    go_ret
    exact ⟨rfl, HT.out⟩
  · rw [hs] at c5 hd
    have hne : ¬ d.left = 0 := by simpa using hd
    clear hd hs
    go_enter Tryz.func69, Tryz.ntmps69
    go_wp2
    go_ret
    exact ⟨rfl, HT.out⟩

def Dk.fused (d : Dk) (k : Nat) (keep : List Bool) : Dk := { d with set := true, left := (k : Int), keep := keep }

theorem bo_one (l : List Bool) : ∀ u ∈ bo l, u.oneCell' = true := by
  intro u hu
  obtain ⟨c, _, rfl⟩ := List.mem_map.1 hu
  rfl

theorem fuse_dead {w : World} {D : Nat} {F : Nat → Prop} {d : Dk} (h : DiskAt w D F d) (hd : d.dead = true) (k : Int) (v : Value) :
    Calls Tryz.prog 31 #[.pointer (some ⟨D, 0, none⟩), .int .i64 k, v] w fun r w' => r = .returned (.int .i64 20) ∧ w' = w := by
  have hc := alive_any h
  rw [show d.errno = 20 by unfold Dk.errno; rw [if_pos hd]] at hc
  clear h hd
  go_enter Tryz.func31, Tryz.ntmps31
  go_wp2_with fail
  refine hc.mono ?_
  rintro r w1 ⟨rfl, rfl⟩
  clear hc
  go_wp2_with fail
  go_ret
  exact ⟨rfl, rfl⟩

theorem fuse_neg {w : World} {D : Nat} {F : Nat → Prop} {d : Dk} (h : DiskAt w D F d) (hd : d.dead = false) (k : Int) (hk : k < 0) (v : Value) :
    Calls Tryz.prog 31 #[.pointer (some ⟨D, 0, none⟩), .int .i64 k, v] w fun r w' => r = .returned (.int .i64 1) ∧ w' = w := by
  have hc := alive_any h
  rw [show d.errno = 0 by unfold Dk.errno; rw [if_neg (by simp [hd])]] at hc
  clear h hd
  go_enter Tryz.func31, Tryz.ntmps31
  go_wp2_with fail
  refine hc.mono ?_
  rintro r w1 ⟨rfl, rfl⟩
  clear hc
  go_wp2_with fail
  go_ret
  exact ⟨rfl, rfl⟩

theorem Lies.fused {w w2 : World} {D B : Nat} {V1 V2 VK : Value} {d : Dk} (h : Lies w D B V1 V2 VK d) (c : Cells8 w2 D V1 V2 (.map (some B)) (.int .i64 d.done) (.bool d.dead) (.bool d.set) (.int .i64 d.left) VK) {v v' : Value} {n : Nat} {keep : List Bool} (hc : Cloned w w2 1 v v' n (bo keep)) (k : Nat) :
    ∃ F', DiskAt (((w2.setCell ⟨D, 5, none⟩ (.bool true)).setCell ⟨D, 6, none⟩ (.int .i64 (k : Int))).setCell ⟨D, 7, none⟩ v') D F' (d.fused k keep) ∧
      Kept (Foot D B V1 V2 VK) F' w (((w2.setCell ⟨D, 5, none⟩ (.bool true)).setCell ⟨D, 6, none⟩ (.int .i64 (k : Int))).setCell ⟨D, 7, none⟩ v') := by
  have hn : keep.length = n := by have := hc.vec.len; simpa [bo] using this
  have ho : Only (fun k => k = D) w2 (((w2.setCell ⟨D, 5, none⟩ (.bool true)).setCell ⟨D, 6, none⟩ (.int .i64 (k : Int))).setCell ⟨D, 7, none⟩ v') := (((Only.refl (fun k => k = D) w2).setCell (p := ⟨D, 5, none⟩) rfl _).setCell (p := ⟨D, 6, none⟩) rfl _).setCell (p := ⟨D, 7, none⟩) rfl _
  have h3 := (h.rest.only (hc.only.mono fun _ _ h => h.elim)).only ho
  have hv : ∀ g, v'.ownBlock = some g → ¬ g = D := fun g hg e => by have := hc.fresh g hg; have := h.ltD; omega
  refine ⟨Foot D B V1 V2 v', ⟨B, V1, V2, v', Lies.join (((c.set5 _).set6 _).set7 _) ⟨h3.lasts, h3.waits, ?_, h3.now, h3.DB, h3.apart1, h3.apart2, ?_, ⟨h3.ok.lasts, h3.ok.waits, h3.ok.many⟩⟩, rfl⟩, ⟨(hc.only.mono fun _ _ h => h.elim).trans (ho.mono fun k _ h => .inl h), fun j hj => ?_⟩⟩
  · show Vec _ 1 v' keep.length (bo keep)
    rw [hn]
    exact hc.vec.only ho hv
  · intro j hj
    have hf := hc.fresh j hj
    exact ⟨hv j hj, fun e => by have := h.ltB; omega, fun e => by have := h.lasts.lt e; omega, fun e => by have := h.waits.lt e; omega⟩
  · rcases hj with hj | hj | hj | hj | hj
    · exact .inl (.inl hj)
    · exact .inl (.inr (.inl hj))
    · exact .inl (.inr (.inr (.inl hj)))
    · exact .inl (.inr (.inr (.inr (.inl hj))))
    · exact .inr (hc.fresh j hj)

theorem fuse_any {w : World} {D : Nat} {F : Nat → Prop} {d : Dk} (h : DiskAt w D F d) (hd : d.dead = false) (k : Nat) {v : Value} {n : Nat} {keep : List Bool} (hv : Rd w 1 v n (bo keep)) (hn : n ≤ 140737488351232) :
    Calls Tryz.prog 31 #[.pointer (some ⟨D, 0, none⟩), .int .i64 (k : Int), v] w fun r w' => r = .returned (.int .i64 0) ∧ ∃ F', DiskAt w' D F' (d.fused k keep) ∧ Kept F F' w w' := by
  have hc := alive_any h
  rw [show d.errno = 0 by unfold Dk.errno; rw [if_neg (by simp [hd])]] at hc
  have hcl := clone_bools hv (bo_one keep) hn
  have hk : ¬ (k : Int) < 0 := by omega
  obtain ⟨B, V1, V2, VK, h, rfl⟩ := h
  have H := Lib.hid h
  have HV := Lib.hid hv
  clear h hv hn hd
  go_enter Tryz.func31, Tryz.ntmps31
  go_wp2_with fail
  refine hc.mono ?_
  rintro r w1 ⟨rfl, rfl⟩
  clear hc
  go_wp2_with fail
  refine hcl.mono ?_
  rintro r w2 ⟨v', rfl, hC⟩
  obtain ⟨a', c', rfl, _, _⟩ := hC.vec.shape
  clear hcl
  have HC := Lib.hid hC
  have C2 := Lib.hid (H.out.cells.only hC.only (fun h => h))
  have c5 := C2.out.c5
  have c6 := C2.out.c6
  have c7 := C2.out.c7
  have thaw := C2.out.thaw
  clear hC
  go_wp2_with fail
  go_ret
  exact ⟨rfl, H.out.fused C2.out HC.out k⟩
end Go.Proofs.YteoeaojebklfjaaGreatDoor
namespace Go.Proofs.YteoeaojebklfjaaGreatDoor
open Go.RowKit Go.Maps
set_option linter.unusedVariables false

def kept (keep : List Bool) (i : Nat) : Bool := keep.getD i false
def Dk.settled (d : Dk) (kept : Nat → Bool) : Dk := { d with lasts := settle kept 0 d.waits d.lasts, waits := [] }
def Dk.crashed (d : Dk) (keep : List Bool) : Dk := { d.settled (kept keep) with dead := true }
def Dk.flushed (d : Dk) : Dk := d.settled fun _ => true
def Dk.wrote (d : Dk) (i : Nat) (s : Sec) : Dk := { d with waits := d.waits ++ [(i, s)] }
def Dk.write (d : Dk) (i : Nat) (s : Sec) : Dk := if d.due then (d.wrote i s).crashed d.keep else (d.wrote i s).tick
def Dk.flush (d : Dk) : Dk := if d.due then d.crashed d.keep else d.tick.flushed
def Dk.reopened (d : Dk) : Dk := ⟨d.lasts, [], 0, false, false, 0, []⟩

structure Dk.Few (d : Dk) (n : Nat) : Prop where
  waits : d.waits.length ≤ n
  done0 : 0 ≤ d.done
  done : d.done ≤ (n : Int)
  left0 : -(n : Int) ≤ d.left
  left : d.left ≤ 9223372036854775807
  keep : d.keep.length ≤ 140737488351232

theorem Dk.settled_ok {d : Dk} (h : d.Ok) (kept : Nat → Bool) : (d.settled kept).Ok :=
  ⟨settle_ok kept d.waits 0 d.lasts h.waits h.lasts, (fun p hp => by cases hp), by show (settle kept 0 d.waits d.lasts).length ≤ _; rw [settle_length]; exact h.many⟩
theorem Dk.wrote_ok {d : Dk} (h : d.Ok) {i : Nat} {s : Sec} (hi : i < d.lasts.length) (hs : s.length = 512) : (d.wrote i s).Ok :=
  ⟨h.lasts, (fun p hp => by
    rcases List.mem_append.1 hp with hp | hp
    · exact h.waits p hp
    · rw [List.mem_singleton.1 hp]; exact ⟨hi, hs⟩), h.many⟩
theorem Dk.read_length {d : Dk} (h : d.Ok) {i : Nat} (hi : i < d.lasts.length) : (d.read i).length = 512 := by
  unfold Dk.read
  cases hk : lastIx d.waits i with
  | none => simp only [List.getD_eq_getElem?_getD, List.getElem?_eq_getElem hi, Option.getD_some]; exact h.lasts _ (List.getElem_mem hi)
  | some k =>
    obtain ⟨h1, h2⟩ := lastIx_lt hk
    simp only [List.getD_eq_getElem?_getD, List.getElem?_eq_getElem h1, Option.getD_some]
    exact (h.waits _ (List.getElem_mem h1)).2

end Go.Proofs.YteoeaojebklfjaaGreatDoor
