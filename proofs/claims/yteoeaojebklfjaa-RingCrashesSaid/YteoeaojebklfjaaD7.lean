/- Operations on a write, as values; Write. -/
import Derived.Test.YteoeaojebklfjaaD6
import Derived.Great.BuildSlice
import Derived.Great.FillDense
import Derived.Laws.Tables
namespace Go.Proofs.Yteoeaojebklfjaa
open Go.RowKit Go.Maps
set_option linter.unusedVariables false

theorem fill_one (place : Nat → Option (Nat × Nat)) (cells : Array Value) (i : Nat) (v : Value) (rest : List (Nat × Value)) (off size : Nat) (hp : place i = some (off, size)) (h1 : v.cells.size = size) (h2 : off + size ≤ cells.size) :
    Instr.fill place cells ((i, v) :: rest) = Instr.fill place ((v.cells.toList.zipIdx 0).foldl (fun cs (x : Value × Nat) => cs.setIfInBounds (off + x.2) x.1) cells) rest := by
  rw [Instr.fill]
  simp only [hp]
  rw [if_neg (by simp [h1]; omega), ← Array.foldl_toList, Array.toList_zipIdx]

theorem fill_two (z : Array Value) (u : Value) (s : List Value) (n : Nat) (hu : u.cells = #[u]) (hs : s.length = n) (hz : z.size = n + 1) :
    Instr.fill ((([(0, 1), (1, n)] : List (Nat × Nat)).toArray)[·]?) z [(0, u), (1, .agg s.toArray)] = some (u :: s).toArray := by
  rw [fill_one _ _ _ _ _ 0 1 rfl (by rw [hu]; rfl) (by omega)]
  have g0 := Go.Great.foldl_set 0 u.cells.toList 0 z
  generalize (u.cells.toList.zipIdx 0).foldl (fun cs (x : Value × Nat) => cs.setIfInBounds (0 + x.2) x.1) z = z1 at g0 ⊢
  have hss : (Value.agg s.toArray).cells.toList = s := by simp [Value.cells]
  rw [fill_one _ _ _ _ _ 1 n rfl (by simp [Value.cells, hs]) (by rw [g0.1]; omega), hss]
  have g1 := Go.Great.foldl_set 1 s 0 z1
  generalize (s.zipIdx 0).foldl (fun cs (x : Value × Nat) => cs.setIfInBounds (1 + x.2) x.1) z1 = z2 at g1 ⊢
  rw [Instr.fill]
  congr 1
  apply Array.ext_getElem?
  intro k
  rw [g1.2 k, g0.2 k, g0.1, hu, hz, hs]
  rcases k with _ | k
  · simp
  · by_cases hk : k < n
    · rw [if_pos (by omega)]
      simp
    · rw [if_neg (by omega), if_neg (by simp)]
      rw [Array.getElem?_eq_none (by omega), Array.getElem?_eq_none (by simp; omega)]

theorem places102 : ∃ fs, Try.prog.underlying 102 = some (.struct fs) ∧ fs.toList.mapM (fun f => (Try.prog.info? f.type).map fun i => (f.offset, i.size)) = some [(0, 1), (1, 512)] := ⟨_, Try.underlying102, by kernel_rfl⟩

theorem built102 (i : Int) (s : Sec) (h : s.length = 512) : Try.prog.built 102 [(0, .int .i64 i), (1, .agg (bv s).toArray)] = some (Value.int .i64 i :: bv s).toArray := by
  obtain ⟨fs, h1, h2⟩ := places102
  unfold Program.built
  simp only [info102, h1, t102_zero, h2]
  exact fill_two _ _ _ 512 rfl (by rw [bv_length, h]) (by rw [show (Value.agg Try.zeroCells102).cells = Try.zeroCells102 from rfl, zsize102'])

theorem filled93 (cs : List Value) (h : cs.length = 513) : Instr.fill (fun i => some (i * Try.t102.size, Try.t102.size)) ((Array.range (1 * Try.t102.size)).map ((Value.agg Try.zeroCells102).cells[· % (Value.agg Try.zeroCells102).cells.size]!)) [(0, .agg cs.toArray)] = some cs.toArray := by
  rw [t102_size]
  have := Go.Great.fill_whole (s := 513) (by decide) [.agg cs.toArray] ((Array.range (1 * 513)).map ((Value.agg Try.zeroCells102).cells[· % (Value.agg Try.zeroCells102).cells.size]!)) (by intro v hv; rw [List.mem_singleton.1 hv]; simpa [Value.cells] using h) (by simp)
  simpa [Value.cells] using this

section
variable {P : Program} {ops : Array Oper}
theorem step_plain {o : Oper} {a : Act} {w : World} {K : Act → World → Prop} {Q : Exit → Act → World → Prop} {E : Prop} (hgd : o.guard = none) (h : Oper.wp P o a w K Q) : if Region.wanted o (yielded ops a.tmps) = true then Oper.wp P o a w K Q else E := by
  have hw : Region.wanted o (yielded ops a.tmps) = true := by simp [Region.wanted, hgd]
  rw [if_pos hw]; exact h
end

end Go.Proofs.Yteoeaojebklfjaa
