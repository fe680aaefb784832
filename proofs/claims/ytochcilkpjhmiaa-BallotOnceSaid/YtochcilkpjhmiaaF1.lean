/- Arguments that came in: integers, arrays of two integers. -/
import Derived.Test.YtochcilkpjhmiaaF0
import Derived.Test.YtochcilkpjhmiaaL4
namespace Go.Proofs.Ytochcilkpjhmiaa
open Go.RowKit Go.WideShapes

theorem okWide_int1 {P : Program} {W : World} {base : Nat} {t : TypeId} {k : IntKind} {v : Value} (ht : P.underlying t = some (.int k)) (h : Value.okWide P W .any base t v) : ∃ a, v = .int k a := by
  simp only [Value.okWide, ht, Cell.okWide] at h
  cases v <;> simp only [Cell.ok, ht] at h
  obtain ⟨rfl, _⟩ := h
  exact ⟨_, rfl⟩

theorem cellTypes39 : Try.prog.cellTypes Try.prog.depth 39 = some [3, 3] := by kernel_rfl
theorem cells39 : Try.prog.cellsOf 39 = 2 := by kernel_rfl

theorem cell_int1 {W : World} {base : Nat} {v : Value} (h : Cell.okWide Try.prog W .any base 3 v) : ∃ a, v = .int .i64 a := by
  simp only [Cell.okWide, Try.underlying3] at h
  cases v <;> simp only [Cell.ok, Try.underlying3] at h
  obtain ⟨rfl, _⟩ := h
  exact ⟨_, rfl⟩

theorem okWide_arr2 {W : World} {base : Nat} {v : Value} (h : Value.okWide Try.prog W .any base 39 v) : ∃ a b, v = .agg #[.int .i64 a, .int .i64 b] := by
  simp only [Value.okWide, under39] at h
  obtain ⟨cs, rfl, hs, hr⟩ := h
  rw [cells39] at hs
  obtain ⟨ts, hts, _, hc⟩ := hr
  rw [cellTypes39] at hts
  injection hts with hts
  subst hts
  obtain ⟨l, rfl⟩ : ∃ l : List Value, cs = l.toArray := ⟨cs.toList, by simp⟩
  match l, hs with
  | [x, y], _ =>
    obtain ⟨u, hu, hx⟩ := hc 0 x rfl
    obtain ⟨u', hu', hy⟩ := hc 1 y rfl
    simp at hu hu'
    subst hu; subst hu'
    obtain ⟨a, rfl⟩ := cell_int1 hx
    obtain ⟨b, rfl⟩ := cell_int1 hy
    exact ⟨a, b, rfl⟩

end Go.Proofs.Ytochcilkpjhmiaa
