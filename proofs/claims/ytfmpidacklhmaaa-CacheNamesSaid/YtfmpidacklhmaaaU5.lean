/- Walks of push, size. -/
import Derived.Test.YtfmpidacklhmaaaU4
namespace Go.Proofs.Ytfmpidacklhmaaa.Lru
open Go.RowKit Go.Maps
set_option linter.unusedVariables false
set_option maxRecDepth 20000

theorem push_none (w : World) (B x : Nat) (h3 : w.cell? ⟨B, 3, none⟩ = some (.pointer none)) (h2 : ∃ v, w.cell? ⟨B, 2, none⟩ = some v) (h4 : ∃ v, w.cell? ⟨x, 4, none⟩ = some v) (h5 : ∃ v, w.cell? ⟨x, 5, none⟩ = some v)
    (fB : ∀ o, w.frozen? ⟨B, o, none⟩ = false) (fx : ∀ o, w.frozen? ⟨x, o, none⟩ = false) (hxB : x ≠ B) :
    Calls Try.prog 52 #[.pointer (some ⟨B, 0, none⟩), .pointer (some ⟨x, 0, none⟩)] w fun e w' => e = .returned (.tuple #[]) ∧
      w' = (((w.setCell ⟨x, 4, none⟩ (.pointer none)).setCell ⟨x, 5, none⟩ (.pointer none)).setCell ⟨B, 2, none⟩ (.pointer (some ⟨x, 0, none⟩))).setCell ⟨B, 3, none⟩ (.pointer (some ⟨x, 0, none⟩)) := by
  obtain ⟨v2, h2⟩ := h2
  obtain ⟨v4, h4⟩ := h4
  obtain ⟨v5, h5⟩ := h5
  go_enter Try.func52, Try.ntmps52
  go_wp2
  go_end0
  exact ⟨rfl, rfl⟩

theorem push_mid (w : World) (B x y : Nat) (h3 : w.cell? ⟨B, 3, none⟩ = some (.pointer (some ⟨y, 0, none⟩))) (h4 : ∃ v, w.cell? ⟨x, 4, none⟩ = some v) (h5 : ∃ v, w.cell? ⟨x, 5, none⟩ = some v) (hy : ∃ v, w.cell? ⟨y, 5, none⟩ = some v)
    (fB : ∀ o, w.frozen? ⟨B, o, none⟩ = false) (fx : ∀ o, w.frozen? ⟨x, o, none⟩ = false) (fy : ∀ o, w.frozen? ⟨y, o, none⟩ = false) (hxB : x ≠ B) (hyB : y ≠ B) (hxy : x ≠ y) :
    Calls Try.prog 52 #[.pointer (some ⟨B, 0, none⟩), .pointer (some ⟨x, 0, none⟩)] w fun e w' => e = .returned (.tuple #[]) ∧
      w' = (((w.setCell ⟨x, 4, none⟩ (.pointer (some ⟨y, 0, none⟩))).setCell ⟨x, 5, none⟩ (.pointer none)).setCell ⟨y, 5, none⟩ (.pointer (some ⟨x, 0, none⟩))).setCell ⟨B, 3, none⟩ (.pointer (some ⟨x, 0, none⟩)) := by
  obtain ⟨vy, hy⟩ := hy
  obtain ⟨v4, h4⟩ := h4
  obtain ⟨v5, h5⟩ := h5
  go_enter Try.func52, Try.ntmps52
  go_wp2
  go_end0
  exact ⟨rfl, rfl⟩

def Ent.val4 (e : Ent) : Value := .agg #[.string e.key, .string e.val, .int .i64 e.til, .int .i64 e.gra]

theorem size_any (e : Ent) (w : World) (hk : e.key.size ≤ 140737488355328) (hv : e.val.size ≤ 140737488355328) :
    Calls Try.prog 49 #[.agg #[.string e.key, .string e.val, .int .i64 e.til, .int .i64 e.gra]] w fun r w' => r = .returned (.int .i64 ((e.key.size : Int) + (e.val.size : Int))) ∧ ∃ o, w' = w.alloc o := by
  have h1 : (e.key.size : Int) ≤ 140737488355328 := by omega
  have h2 : (e.val.size : Int) ≤ 140737488355328 := by omega
  clear hk hv
  go_enter Try.func49, Try.ntmps49
  go_wp2
  go_ret
  exact ⟨rfl, _, rfl⟩

end Go.Proofs.Ytfmpidacklhmaaa.Lru
