/- The walks of size, cut, push. -/
import Derived.Test.YthmdaekkpihlnaaU2
import Derived.Test.YthmdaekkpihlnaaProg
import Derived.RegionTactic
import Derived.BigRegion
import Derived.BigQuiet
import Derived.Deep.QuietTactic
namespace Go.Proofs.Ythmdaekkpihlnaa
open Go.RowKit Go.Maps
set_option linter.unusedVariables false

theorem cut_mid_mid (w : World) (B x y z : Nat) (h4 : w.cell? ⟨x, 4, none⟩ = some (.pointer (some ⟨y, 0, none⟩))) (h5 : w.cell? ⟨x, 5, none⟩ = some (.pointer (some ⟨z, 0, none⟩))) (hy : ∃ v, w.cell? ⟨y, 5, none⟩ = some v) (hz : ∃ v, w.cell? ⟨z, 4, none⟩ = some v) (fB : ∀ o, w.frozen? ⟨B, o, none⟩ = false) (fy : ∀ o, w.frozen? ⟨y, o, none⟩ = false) (fz : ∀ o, w.frozen? ⟨z, o, none⟩ = false) (hxB : x ≠ B) (hxy : x ≠ y) (hyB : y ≠ B) (hxz : x ≠ z) (hzB : z ≠ B) (hyz : y ≠ z) :
    Calls Try.prog 26 #[.pointer (some ⟨B, 0, none⟩), .pointer (some ⟨x, 0, none⟩)] w fun e w' => e = .returned (.tuple #[]) ∧ ∃ n, w' = ((w.setCell ⟨y, 5, none⟩ (.pointer (some ⟨z, 0, none⟩))).setCell ⟨z, 4, none⟩ (.pointer (some ⟨y, 0, none⟩))).drewN n := by
  obtain ⟨vy, hy⟩ := hy
  obtain ⟨vz, hz⟩ := hz
  go_enter Try.func26, Try.ntmps26
  go_wp2
  go_region
  go_wp2
  go_region
  go_end0
  exact ⟨rfl, 2, rfl⟩

theorem cut_mid_none (w : World) (B x y : Nat) (h4 : w.cell? ⟨x, 4, none⟩ = some (.pointer (some ⟨y, 0, none⟩))) (h5 : w.cell? ⟨x, 5, none⟩ = some (.pointer none)) (hy : ∃ v, w.cell? ⟨y, 5, none⟩ = some v) (hz : ∃ v, w.cell? ⟨B, 3, none⟩ = some v) (fB : ∀ o, w.frozen? ⟨B, o, none⟩ = false) (fy : ∀ o, w.frozen? ⟨y, o, none⟩ = false) (hxB : x ≠ B) (hxy : x ≠ y) (hyB : y ≠ B) :
    Calls Try.prog 26 #[.pointer (some ⟨B, 0, none⟩), .pointer (some ⟨x, 0, none⟩)] w fun e w' => e = .returned (.tuple #[]) ∧ ∃ n, w' = ((w.setCell ⟨y, 5, none⟩ (.pointer none)).setCell ⟨B, 3, none⟩ (.pointer (some ⟨y, 0, none⟩))).drewN n := by
  obtain ⟨vy, hy⟩ := hy
  obtain ⟨vz, hz⟩ := hz
  go_enter Try.func26, Try.ntmps26
  go_wp2
  go_region
  go_wp2
  go_end0
  exact ⟨rfl, 1, rfl⟩

theorem cut_none_mid (w : World) (B x z : Nat) (h4 : w.cell? ⟨x, 4, none⟩ = some (.pointer none)) (h5 : w.cell? ⟨x, 5, none⟩ = some (.pointer (some ⟨z, 0, none⟩))) (hy : ∃ v, w.cell? ⟨B, 2, none⟩ = some v) (hz : ∃ v, w.cell? ⟨z, 4, none⟩ = some v) (fB : ∀ o, w.frozen? ⟨B, o, none⟩ = false) (fz : ∀ o, w.frozen? ⟨z, o, none⟩ = false) (hxB : x ≠ B) (hxz : x ≠ z) (hzB : z ≠ B) :
    Calls Try.prog 26 #[.pointer (some ⟨B, 0, none⟩), .pointer (some ⟨x, 0, none⟩)] w fun e w' => e = .returned (.tuple #[]) ∧ ∃ n, w' = ((w.setCell ⟨B, 2, none⟩ (.pointer (some ⟨z, 0, none⟩))).setCell ⟨z, 4, none⟩ (.pointer none)).drewN n := by
  obtain ⟨vy, hy⟩ := hy
  obtain ⟨vz, hz⟩ := hz
  go_enter Try.func26, Try.ntmps26
  go_wp2
  go_region
  go_end0
  exact ⟨rfl, 1, rfl⟩

theorem cut_none_none (w : World) (B x : Nat) (h4 : w.cell? ⟨x, 4, none⟩ = some (.pointer none)) (h5 : w.cell? ⟨x, 5, none⟩ = some (.pointer none)) (hy : ∃ v, w.cell? ⟨B, 2, none⟩ = some v) (hz : ∃ v, w.cell? ⟨B, 3, none⟩ = some v) (fB : ∀ o, w.frozen? ⟨B, o, none⟩ = false) (hxB : x ≠ B) :
    Calls Try.prog 26 #[.pointer (some ⟨B, 0, none⟩), .pointer (some ⟨x, 0, none⟩)] w fun e w' => e = .returned (.tuple #[]) ∧ ∃ n, w' = ((w.setCell ⟨B, 2, none⟩ (.pointer none)).setCell ⟨B, 3, none⟩ (.pointer none)).drewN n := by
  obtain ⟨vy, hy⟩ := hy
  obtain ⟨vz, hz⟩ := hz
  go_enter Try.func26, Try.ntmps26
  go_wp2
  go_end0
  exact ⟨rfl, 0, rfl⟩

end Go.Proofs.Ythmdaekkpihlnaa
