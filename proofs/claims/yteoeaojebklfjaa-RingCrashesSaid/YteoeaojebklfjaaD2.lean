/- New; the fuse; a sector full of one byte. -/
import Derived.Test.YteoeaojebklfjaaD1
namespace Go.Proofs.Yteoeaojebklfjaa
open Go.RowKit Go.Maps
set_option linter.unusedVariables false

def zs : Sec := List.replicate 512 0
theorem zero100 : Try.zeroCells100 = Array.replicate 512 (.int .u8 0) := by kernel_rfl
theorem bv_replicate (n : Nat) (c : UInt8) : bv (List.replicate n c) = List.replicate n (.int .u8 (c.toNat : Int)) := by simp [bv]
theorem zs_bv : bv zs = List.replicate 512 (.int .u8 0) := bv_replicate 512 0
theorem flat_replicate (v : Value) (k : Nat) : ∀ n, (List.replicate n zs).flatMap bv = List.replicate (n * 512) (.int .u8 0)
  | 0 => by simp
  | n + 1 => by
    rw [List.replicate_succ, List.flatMap_cons, flat_replicate v k n, zs_bv, Nat.add_mul, Nat.one_mul, Nat.add_comm (n * 512)]
    exact List.replicate_append_replicate ..
theorem made100 (n : Nat) : (madeCells Try.zeroCells100 (n * 512)).toList = (List.replicate n zs).flatMap bv := by
  rw [flat_replicate (.int .u8 0) 0 n, zero100]
  apply List.ext_getElem
  · simp [size_madeCells]
  · intro i h1 h2
    have : i % 512 < 512 := Nat.mod_lt _ (by decide)
    simp [madeCells, this]

/-- an empty disk -/
def Dk.new (n : Nat) : Dk := ⟨List.replicate n zs, [], 0, false, false, 0, []⟩
theorem Dk.new_ok {n : Nat} (h : n ≤ 65536) : (Dk.new n).Ok := ⟨fun s hs => by rw [(List.mem_replicate.1 hs).2]; exact List.length_replicate, fun p hp => by simp [Dk.new] at hp, by simpa [Dk.new] using h⟩

theorem new_bad (n : Int) (w : World) (h : n < 1 ∨ 65536 < n) : Calls Try.prog 13 #[.int .i64 n] w fun r w' => r = .returned (.tuple #[.pointer none, .int .i64 1]) ∧ w' = w := by
  have H := Lib.hid h
  clear h
  by_cases h1 : n < 1
  · go_enter Try.func13, Try.ntmps13
    go_wp2
    go_ret2
    exact ⟨rfl, rfl⟩
  · have h2 : (65536 : Int) < n := by have := H.out; omega
    go_enter Try.func13, Try.ntmps13
    go_wp2
    go_ret2
    exact ⟨rfl, rfl⟩

theorem info100 : Try.prog.info? 100 = some Try.t100 := by kernel_rfl
theorem t100_zero : Try.t100.zero = some (.agg Try.zeroCells100) := by kernel_rfl
theorem t100_size : Try.t100.size = 512 := by kernel_rfl
theorem t100_bytes : Try.t100.bytes = 512 := by kernel_rfl

theorem fresh_disk {w1 : World} {V1 : Value} {L : List Sec} (hv : Vec w1 512 V1 L.length (L.flatMap bv)) (hL : ∀ s ∈ L, s.length = 512) (hm : L.length ≤ 65536) :
    DiskAt ((w1.alloc (.map #[] 0)).alloc (.cells #[V1, .slice none 0 0, .map (some w1.heap.size), .int .i64 0, .bool false, .bool false, .int .i64 0, .slice none 0 0] 97)) (w1.heap.size + 1) (Foot (w1.heap.size + 1) w1.heap.size V1 (.slice none 0 0) (.slice none 0 0)) ⟨L, [], 0, false, false, 0, []⟩ := by
  have hs : (w1.alloc (.map #[] 0)).heap.size = w1.heap.size + 1 := by simp
  have hb (i : Nat) := World.cell?_alloc_new (w1.alloc (.map #[] 0)) #[V1, .slice none 0 0, .map (some w1.heap.size), .int .i64 0, .bool false, .bool false, .int .i64 0, .slice none 0 0] 97 i
  have hf (i : Nat) := World.frozen?_alloc_new (w1.alloc (.map #[] 0)) #[V1, .slice none 0 0, .map (some w1.heap.size), .int .i64 0, .bool false, .bool false, .int .i64 0, .slice none 0 0] 97 i
  rw [hs] at hb hf
  exact ⟨_, _, _, _, ⟨hb 0, hb 1, hb 2, hb 3, hb 4, hb 5, hb 6, hb 7, hf, by simp, (hv.alloc _).alloc _, Vec.nil _ _, Vec.nil _ _, ⟨.map [], (World.ownsMap_made w1 Try.prog 3 _).alloc _, NowOf.nil⟩, by omega,
    (fun k hk => by have := hv.lt hk; omega), (fun k hk => by cases hk), (fun k hk => by cases hk), ⟨hL, fun p hp => by simp at hp, hm⟩⟩, rfl⟩

theorem new_any (n : Nat) (w : World) (h1 : 1 ≤ n) (h2 : n ≤ 65536) : Calls Try.prog 13 #[.int .i64 (n : Int)] w fun r w' => ∃ D F, r = .returned (.tuple #[.pointer (some ⟨D, 0, none⟩), .int .i64 0]) ∧ DiskAt w' D F (Dk.new n) ∧ (∀ k, F k → w.heap.size ≤ k) ∧ Only None' w w' := by
  have a1 : ¬ (n : Int) < 1 := by omega
  have a2 : ¬ (65536 : Int) < n := by omega
  have H := Lib.hid (And.intro h1 h2)
  have hmm := @run_makeMap Try.prog
  clear h1 h2
  go_enter Try.func13, Try.ntmps13
  go_wp2_with (at_make; refine wpList_make_full _ rfl _ _ 91 rfl w.heap.size 100 Try.t100 (.agg Try.zeroCells100) 512 Try.underlying91 info100 t100_zero t100_size .i64 .i64 (n : Int) (n : Int) n rfl rfl rfl rfl (by rw [t100_bytes]; have := H.out; omega) (by have := H.out; unfold maxLen; omega) (Nat.le_refl _) ?_; intro w1 hown hgrow)
  go_ret2
  have a2' := H.out.2
  have hn : n = (List.replicate n zs).length := by simp
  have hv := Vec.of_owns hown
  rw [show (Value.agg Try.zeroCells100).cells = Try.zeroCells100 from rfl, made100] at hv
  have hd := fresh_disk (L := List.replicate n zs) (by rw [← hn]; exact hv) (fun s hs => by rw [(List.mem_replicate.1 hs).2]; exact List.length_replicate) (by rw [← hn]; exact a2')
  refine ⟨_, rfl, _, hd, ?_, ((((Only.refl None' w).grown hgrow (by simp)).alloc _).alloc _)⟩
  have := hgrow.size
  intro k hk
  rcases hk with rfl | rfl | hk | hk | hk
  · omega
  · omega
  · simp only [Value.ownBlock, Option.some.injEq] at hk; omega
  · cases hk
  · cases hk

/-- a sector of one byte -/
def sec (c : UInt8) : Sec := List.replicate 512 c
theorem info5 : Try.prog.info? 5 = some Try.t5 := by kernel_rfl
theorem t5_zero : Try.t5.zero = some (.int .u8 0) := by kernel_rfl
theorem t5_size : Try.t5.size = 1 := by kernel_rfl
theorem t5_bytes : Try.t5.bytes = 1 := by kernel_rfl

theorem Vec.free {w : World} {size n g off cap : Nat} {xs : List Value} (h : Vec w size (.slice (some ⟨g, off, none⟩) n cap) n xs) {k : Nat} (hk : k < n * size) : (w.cell? ⟨g, off + k, none⟩).isSome = true ∧ w.frozen? ⟨g, off + k, none⟩ = false := by
  have := h.there (o := 0) (k := n * size) (by omega) k hk
  rwa [Nat.add_zero] at this
theorem Vec.free0 {w : World} {size n g cap : Nat} {xs : List Value} (h : Vec w size (.slice (some ⟨g, 0, none⟩) n cap) n xs) {k : Nat} (hk : k < n * size) : (w.cell? ⟨g, k, none⟩).isSome = true ∧ w.frozen? ⟨g, k, none⟩ = false := by
  have := h.free hk
  rwa [Nat.zero_add] at this
theorem Vec.set1 {w : World} {n g cap : Nat} {xs : List Value} (h : Vec w 1 (.slice (some ⟨g, 0, none⟩) n cap) n xs) {k : Nat} (hk : k < n) (v : Value) : Vec (w.setCell ⟨g, k, none⟩ v) 1 (.slice (some ⟨g, 0, none⟩) n cap) n (xs.set k v) := by
  have h1 := h.put (o := k) (vs := [v]) (by simp; omega)
  have hl := h.len
  rw [Nat.zero_add, List.length_singleton] at h1
  rw [List.set_eq_take_append_cons_drop, if_pos (by omega)]
  simpa [World.setCells] using h1

/-- what the row holds when so many are set -/
def half (c : UInt8) (k : Nat) : List Value := List.replicate k (.int .u8 (c.toNat : Int)) ++ List.replicate (512 - k) (.int .u8 0)

theorem half_set (c : UInt8) {k : Nat} (h : k < 512) : (half c k).set k (.int .u8 (c.toNat : Int)) = half c (k + 1) := by
  unfold half
  obtain ⟨m, hm⟩ : ∃ m, 512 - k = m + 1 := ⟨511 - k, by omega⟩
  have e : 512 - (k + 1) = m := by omega
  rw [hm, e, List.set_append_right _ _ (by simp), List.length_replicate, Nat.sub_self, List.replicate_succ, List.set_cons_zero, List.replicate_succ', List.append_assoc]
  rfl
theorem half_all (c : UInt8) : half c 512 = bv (sec c) := by
  rw [sec, bv_replicate]
  exact List.append_nil _

theorem full_any (c : UInt8) (w : World) : Calls Try.prog 17 #[.int .u8 (c.toNat : Int)] w fun r w' => ∃ g, r = .returned (.slice (some ⟨g, 0, none⟩) 512 512) ∧ w.heap.size ≤ g ∧ Vec w' 1 (.slice (some ⟨g, 0, none⟩) 512 512) 512 (bv (sec c)) ∧ Only None' w w' := by
  go_enter Try.func17, Try.ntmps17
  go_wp2_with (at_make; refine wpList_make_full _ rfl _ _ 34 rfl w.heap.size 5 Try.t5 (.int .u8 0) 1 Try.underlying34 info5 t5_zero t5_size .i64 .i64 512 512 512 rfl rfl rfl rfl (by rw [t5_bytes]; decide) (by unfold maxLen; decide) (Nat.le_refl _) ?_; intro w1 hown hgrow)
  have H0 : Hid (Vec w1 1 (.slice (some ⟨w.heap.size, 0, none⟩) 512 512) 512 (half c 0) ∧ Below w.heap.size w w1) := by
    refine ⟨?_, (Below.refl _ w).grown hgrow (by simp) (by intro k hk; cases hk)⟩
    have := Vec.of_owns hown
    have e : (madeCells (Value.int .u8 0).cells (512 * 1)).toList = half c 0 := by rw [show (Value.int .u8 0).cells = #[.int .u8 0] from rfl, toList_madeCells_one]; rfl
    rwa [e] at this
  clear hown hgrow
  go_loopw [4] (fun i wr => ∃ k : Nat, k ≤ 512 ∧ i = .int .i64 k ∧ Hid (Vec wr 1 (.slice (some ⟨w.heap.size, 0, none⟩) 512 512) 512 (half c k) ∧ Below w.heap.size w wr)) (fun i wr => 512 - (intOf i).toNat)
  case atStart => exact ⟨0, by decide, rfl, H0⟩
  case round =>
    obtain ⟨k, hk, rfl, HH⟩ := hrel
    by_cases hlt : k < 512
    · have i0 : (0 : Int) ≤ (k : Int) := by omega
      have i1 : (k : Int) < 512 := by omega
      obtain ⟨f1, f2⟩ := HH.out.1.free0 (k := k) (by omega)
      obtain ⟨u, hu⟩ := Option.isSome_iff_exists.1 f1
      clear f1
      go_wp2_with fail
      go_roundw
      case rel =>
        refine ⟨k + 1, by omega, by go_num, Lib.hid ⟨?_, ?_⟩⟩
        · rw [← half_set c hlt]
          exact HH.out.1.set1 hlt _
        · exact HH.out.2.setCell (Nat.le_refl _) _
      case measure => simp [intOf]; omega
    · obtain rfl : k = 512 := by omega
      go_wp2_with fail
      go_ret
      refine ⟨_, rfl, Nat.le_refl _, ?_, Only.of_below HH.out.2 _⟩
      rw [← half_all]
      exact HH.out.1
end Go.Proofs.Yteoeaojebklfjaa
