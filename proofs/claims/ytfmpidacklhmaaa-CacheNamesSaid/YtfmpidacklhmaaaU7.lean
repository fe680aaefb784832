/- The walk of remove. -/
import Derived.Test.YtfmpidacklhmaaaU6
import Derived.StillTailTactics
import Derived.Deep.RegionWith

namespace Go.Proofs.Ytfmpidacklhmaaa.Lru
open Go.RowKit Go.Maps
set_option linter.unusedVariables false
set_option maxRecDepth 20000

theorem wrap64 (n : Int) (h0 : -9223372036854775808 ≤ n) (h1 : n ≤ 9223372036854775807) : IntKind.i64.wrap n = n := by
  simp [IntKind.wrap, IntKind.bits, IntKind.signed]; omega

def bytesOf (l : List Node) : Nat := (l.map fun y => y.2.key.size + y.2.val.size).sum

structure Shelf (m : Nat) (w : World) (B M : Nat) (E Y : Int) (l : List Node) : Prop where
  row : Row m w B M l
  rest : Rest w B M E Y (bytesOf l : Int)
  map : ∃ D, w.ownsMap Try.prog 9 ptrR M l.length D ∧ MapOf D l
  small : ∀ y ∈ l, y.2.key.size ≤ 140737488355328 ∧ y.2.val.size ≤ 140737488355328
  few : l.length ≤ 1000

/-- the blocks that a shelf has -/
def Own (B M : Nat) (l : List Node) (k : Nat) : Prop := k = B ∨ k = M ∨ k ∈ nums l

theorem keyed9 : Keyed Try.prog 9 := string_keyed Try.underlying9
theorem under79 : Try.prog.underlying 79 = some (.map 9 80) := by kernel_rfl

/-- what remove asks behind the cut -/
structure Mid (w : World) (B M x n : Nat) (e : Ent) (D : DataW Unit) (u : Int) : Prop where
  c4 : w.cell? ⟨B, 4, none⟩ = some (.map (some M))
  c5 : w.cell? ⟨B, 5, none⟩ = some (.int .i64 u)
  k0 : w.cell? ⟨x, 0, none⟩ = some (.string e.key)
  k1 : w.cell? ⟨x, 1, none⟩ = some (.string e.val)
  k2 : w.cell? ⟨x, 2, none⟩ = some (.int .i64 e.til)
  k3 : w.cell? ⟨x, 3, none⟩ = some (.int .i64 e.gra)
  own : w.ownsMap Try.prog 9 ptrR M n D
  ltB : B < w.heap.size
  ltx : x < w.heap.size
  fB : ∀ o, w.frozen? ⟨B, o, none⟩ = false

theorem remove_walk (w0 : World) (G : World → Prop) (B M x n : Nat) (e : Ent) (D : DataW Unit) (u : Int)
    (hc : Calls Try.prog 48 #[.pointer (some ⟨B, 0, none⟩), .pointer (some ⟨x, 0, none⟩)] w0 fun r w' => r = .returned (.tuple #[]) ∧ G w')
    (hG : ∀ w, G w → Mid w B M x n e D u) (hB : M ≠ B) (hx : M ≠ x)
    (hk : e.key.size ≤ 140737488355328) (hv : e.val.size ≤ 140737488355328) (hu : Hid (0 ≤ u - ((e.key.size : Int) + (e.val.size : Int)) ∧ u ≤ 1000000000000000000)) :
    Calls Try.prog 30 #[.pointer (some ⟨B, 0, none⟩), .pointer (some ⟨x, 0, none⟩)] w0 fun r w' => r = .returned (.tuple #[]) ∧
      ∃ w, G w ∧ ∃ w1 o nn, w1.ownsMap Try.prog 9 ptrR M n (D.del (kl e.key)) ∧ Only (fun k => k = M) w w1 ∧ w' = ((w1.setCell ⟨B, 5, none⟩ (.int .i64 (u - ((e.key.size : Int) + (e.val.size : Int))))).alloc o).drewN nn := by
  have HK := Lib.hid hk
  have HV := Lib.hid hv
  clear hk hv
  go_enter Try.func30, Try.ntmps30
  go_wp2_with fail
  refine hc.mono ?_
  rintro r w' ⟨rfl, hg⟩
  obtain ⟨c4, c5, k0, k1, k2, k3, hown, hBlt, hxlt, fB⟩ := hG w' hg
  have HG := Lib.hid hg
  have hown := Lib.hid hown
  clear hG hg hc
  go_wp2_with fail
  go_still_tail 9, (by kernel_rfl)
  at_delete
  refine wpList_delete_own _ rfl _ _ 79 9 rfl 80 keyed9 under79 ptrR M n D rfl (hown.out.drew) (.string e.key) (kl e.key) rfl (Go.WideMaps.keyOf_string_mk Try.underlying9 (by have := HK.out; unfold maxLen; omega)) ?_
  intro w1 ho1 ht1
  have hO : Only (fun k => k = M) w' w1 := (Only.drew (Only.refl _ _)).turned ht1 rfl
  have HO1 := Lib.hid ho1
  have HO := Lib.hid hO
  have sB : w1.heap[B]? = w'.heap[B]? := hO.block B hBlt (fun e => hB e.symm)
  have sx : w1.heap[x]? = w'.heap[x]? := hO.block x hxlt (fun e => hx e.symm)
  have d5 : w1.cell? ⟨B, 5, none⟩ = some (.int .i64 u) := (World.cell?_of_block (w := w') (a := ⟨B, 5, none⟩) sB).trans c5
  have j0 : w1.cell? ⟨x, 0, none⟩ = some (.string e.key) := (World.cell?_of_block (w := w') (a := ⟨x, 0, none⟩) sx).trans k0
  have j1 : w1.cell? ⟨x, 1, none⟩ = some (.string e.val) := (World.cell?_of_block (w := w') (a := ⟨x, 1, none⟩) sx).trans k1
  have j2 : w1.cell? ⟨x, 2, none⟩ = some (.int .i64 e.til) := (World.cell?_of_block (w := w') (a := ⟨x, 2, none⟩) sx).trans k2
  have j3 : w1.cell? ⟨x, 3, none⟩ = some (.int .i64 e.gra) := (World.cell?_of_block (w := w') (a := ⟨x, 3, none⟩) sx).trans k3
  have f1 : ∀ o, w1.frozen? ⟨B, o, none⟩ = false := fun o => (World.frozen?_of_block (w := w') (a := ⟨B, o, none⟩) sB).trans (fB o)
  have l1 : B < w1.heap.size := Nat.lt_of_lt_of_le hBlt hO.size
  have l2 : x < w1.heap.size := Nat.lt_of_lt_of_le hxlt hO.size
  have t1 : (e.key.size : Int) ≤ 140737488355328 := by have := HK.out; omega
  have t2 : (e.val.size : Int) ≤ 140737488355328 := by have := HV.out; omega
  obtain ⟨t3, t4⟩ := hu.out
  clear ho1 hO ht1 sB sx c4 c5 k0 k1 k2 k3 fB hBlt hxlt hown hu
  have hw : Hid ( IntKind.i64.wrap (u - ((e.key.size : Int) + (e.val.size : Int))) = u - ((e.key.size : Int) + (e.val.size : Int))) := wrap64 _ (by omega) (by omega)
  go_wp2_with fail
  go_region_with (go_at_call 49; refine (size_any e _ HK.out HV.out).mono ?_; rintro r w2 ⟨rfl, o, rfl⟩)
  all_goals go_end0
  all_goals exact ⟨rfl, w', HG.out, w1, o, 1, HO1.out, HO.out, by rw [hw.out]; rfl⟩

end Go.Proofs.Ytfmpidacklhmaaa.Lru
