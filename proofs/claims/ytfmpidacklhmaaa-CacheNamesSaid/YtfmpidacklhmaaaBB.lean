/- A2 + A3 in one text. -/
import Derived.Test.YtfmpidacklhmaaaA1
import Derived.Deep.WholeRow
/- get: a message by value. -/
namespace Go.Proofs.Ytfmpidacklhmaaa
open Go.RowKit Go.Maps
set_option linter.unusedVariables false
set_option maxRecDepth 20000

theorem Only.setRow {S : Nat → Prop} {a w : World} (h : Only S a w) {g : Nat} (hg : a.heap.size ≤ g) (cs : Array Value) : Only S a (w.setRow g cs) :=
  ⟨h.os, h.tape, h.output, by rw [size_setRow]; exact h.size, fun i hi hn => (setRow_other w g i cs (by omega)).trans (h.block i hi hn)⟩
theorem Mg.row_one (m : Mg) : (m.row.toArray).all (·.oneCell') = true := by simp [Mg.row, Value.oneCell']
theorem get_any (key : ByteArray) (id : Int) (w : World) : Calls Try.prog 9 #[.string key, .int .i64 id] w fun e w' => e = .returned (getM key id).v ∧ Only None' w w' := by
  go_enter Try.func9, Try.ntmps9
  go_upto_region 1 with fail
  generalize hX : w.heap.size = X
  generalize hw1 : w.alloc _ = w1
  have hg : ∃ old, w1.heap[X]? = some (.cells old 44 (0, 0)) ∧ old.size = 33 := by rw [← hw1, ← hX]; exact ⟨_, heap_alloc_new w _, rfl⟩
  have o1 : Only None' w w1 := by rw [← hw1]; exact (Only.refl None' w).alloc _
  obtain ⟨old, hold, hs⟩ := hg
  have HO := Lib.hid (And.intro o1 (And.intro hold hs))
  have HX := Lib.hid hX
  clear o1 hold hs hw1 hX
  go_wp2_with (refine wpList_store_row rfl 44 (.tmp 4) (.tmp 9) rfl X (getM key id).row.toArray rfl rfl 44 old HO.out.2.1 (by kernel_rfl) HO.out.2.2 (Mg.row_one _) ?_)
  (try simp only [Exit.inBlock, Exit.then])
  refine bodyPost_ret (v := (getM key id).v) ?_ rfl ?_
  · exact results_cell_row rfl _ _ X 44 _ (0, 0) _ rfl (setRow_heap _ _ _ _ _ _ HO.out.2.1) Try.underlying44 rfl (by kernel_rfl)
  · exact ⟨rfl, HO.out.1.setRow (by rw [HX.out]; exact Nat.le_refl _) _⟩
end Go.Proofs.Ytfmpidacklhmaaa
/- hears: who hears what. -/
namespace Go.Proofs.Ytfmpidacklhmaaa
open Go.RowKit Go.Maps
set_option linter.unusedVariables false
set_option maxRecDepth 20000

def fn (n : Nat) : Value := .func (.func n) #[] #[]
def hearsR : List Value := [.nilFunc, .nilFunc, .nilFunc, .nilFunc, .nilFunc, .nilFunc, .nilFunc, .nilFunc, .nilFunc, fn 25, fn 24, .nilFunc, .nilFunc, fn 26, .nilFunc, fn 26, fn 27, .nilFunc, .nilFunc, .nilFunc]
theorem hearsR_one : hearsR.toArray.all (·.oneCell') = true := by simp [hearsR, fn, Value.oneCell']
theorem hears_any (w : World) : Calls Try.prog 19 #[] w fun e w' => e = .returned (.agg hearsR.toArray) ∧ Only None' w w' := by
  go_enter Try.func19, Try.ntmps19
  go_upto_region 1 with fail
  generalize hX : w.heap.size = X
  generalize hw1 : w.alloc _ = w1
  have hg : ∃ old, w1.heap[X]? = some (.cells old 68 (0, 0)) ∧ old.size = 20 := by rw [← hw1, ← hX]; exact ⟨_, heap_alloc_new w _, rfl⟩
  have o1 : Only None' w w1 := by rw [← hw1]; exact (Only.refl None' w).alloc _
  obtain ⟨old, hold, hs⟩ := hg
  have HO := Lib.hid (And.intro o1 (And.intro hold hs))
  have HX := Lib.hid hX
  clear o1 hold hs hw1 hX
  go_wp2_with (refine wpList_store_row rfl 68 (.tmp 0) (.tmp 1) rfl X hearsR.toArray rfl rfl 68 old HO.out.2.1 (by kernel_rfl) HO.out.2.2 hearsR_one ?_)
  (try simp only [Exit.inBlock, Exit.then])
  refine bodyPost_ret (v := .agg hearsR.toArray) ?_ rfl ?_
  · exact results_cell_row rfl _ _ X 68 _ (0, 0) _ rfl (setRow_heap _ _ _ _ _ _ HO.out.2.1) Try.underlying68 rfl (by kernel_rfl)
  · exact ⟨rfl, HO.out.1.setRow (by rw [HX.out]; exact Nat.le_refl _) _⟩
end Go.Proofs.Ytfmpidacklhmaaa
