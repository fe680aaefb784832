/- same, twice: of equal rows. -/
import Derived.Test.YtehoiapadnbklaaD6
namespace Go.Proofs.Ytehoiapadnbklaa
open Go.RowKit Go.Maps
set_option linter.unusedVariables false

set_option maxRecDepth 20000 in
set_option maxHeartbeats 1000000 in
theorem same_any {w : World} {v u : Value} {l : List Wt} (hv : WRow w v l) (hu : WRow w u l) (hl : l.length ≤ 1000) : Calls Try.prog 16 #[v, u] w fun e w' => e = .returned (.bool true) ∧ Only None' w w' := by
  obtain ⟨a, k, rfl⟩ := hv.shape
  obtain ⟨b, m, rfl⟩ := hu.shape
  have HV := Lib.hid (And.intro hv hu)
  obtain ⟨n, hn⟩ : ∃ n, n = l.length := ⟨_, rfl⟩
  have HL := Lib.hid (And.intro hn hl)
  rw [← hn] at HV ⊢
  clear hv hu hn hl
  go_enter Try.func16, Try.ntmps16
  go_wp2_with fail
  go_loopw [5] (fun i wr => ∃ j : Nat, j ≤ n ∧ i = .int .i64 (j : Int) ∧ Hid (Only None' w wr)) (fun i wr => n - (intOf i).toNat)
  case atStart => exact ⟨0, by omega, rfl, Lib.hid (Only.refl _ _)⟩
  case round =>
    obtain ⟨j, hj, rfl, HJ⟩ := hrel
    by_cases hlt : j < n
    · have hjl : j < l.length := by have := HL.out.1; omega
      have RV := Lib.hid (HV.out.1.only HJ.out fun _ _ e => e)
      have RU := Lib.hid (HV.out.2.only HJ.out fun _ _ e => e)
      obtain ⟨g, off, cp, e, hg, hcell, _⟩ := RV.out.at_ hjl
      injection e with e e2 e3
      subst e
      obtain ⟨g', off', cp', e', hg', hcell', _⟩ := RU.out.at_ hjl
      injection e' with e' e2' e3'
      subst e'
      clear e2 e3 e2' e3'
      obtain ⟨x, hx⟩ : ∃ x, x = l[j] := ⟨_, rfl⟩
      rw [← hx] at hcell hcell'
      clear hx
      obtain ⟨z1, z2, z3, z4, z5, z6, z7⟩ := x
      have HC : Hid (∀ (i : Nat) (u : Value), (Wt.mk z1 z2 z3 z4 z5 z6 z7).row[i]? = some u → wr.cell? ⟨g, off + j * 7 + i, none⟩ = some u) := Lib.hid hcell
      have k0 := hcell' 0 _ rfl
      have k1 := hcell' 1 _ rfl
      have k2 := hcell' 2 _ rfl
      have k3 := hcell' 3 _ rfl
      have k4 := hcell' 4 _ rfl
      have k5 := hcell' 5 _ rfl
      have k6 := hcell' 6 _ rfl
      rw [Nat.add_zero] at k0
      simp only at k0 k1 k2 k3 k4 k5 k6
      have i0 : (0 : Int) ≤ (j : Int) := by omega
      have i1 : (j : Int) < (n : Int) := by omega
      have HLT := Lib.hid hlt
      clear hlt hj hjl hcell hcell'
      go_upto_region 7 with fail
      obtain ⟨w3, hw3⟩ : ∃ w3, w3 = wr.alloc (.cells #[.int .i64 z1, .string z2, .int .i64 z3, .int .i64 z4, .int .i64 z5, .int .i64 z6, .bool z7] 43) := ⟨_, rfl⟩
      obtain ⟨T, hT⟩ : ∃ T, T = wr.heap.size := ⟨_, rfl⟩
      have O3 : Hid (Only None' wr w3) := Lib.hid (by rw [hw3]; exact (Only.refl None' wr).alloc _)
      have C3 : Hid (CellsR w3 T [.int .i64 z1, .string z2, .int .i64 z3, .int .i64 z4, .int .i64 z5, .int .i64 z6, .bool z7]) := Lib.hid (by rw [hw3, hT]; exact cells_new wr [.int .i64 z1, .string z2, .int .i64 z3, .int .i64 z4, .int .i64 z5, .int .i64 z6, .bool z7] 43)
      have t0 := C3.out.is 0 _ rfl
      have t1 := C3.out.is 1 _ rfl
      have t2 := C3.out.is 2 _ rfl
      have t3 := C3.out.is 3 _ rfl
      have t4 := C3.out.is 4 _ rfl
      have t5 := C3.out.is 5 _ rfl
      have t6 := C3.out.is 6 _ rfl
      have hcl : ∀ (i : Nat) (u : Value), (Wt.mk z1 z2 z3 z4 z5 z6 z7).row[i]? = some u → w3.cell? ⟨g, off + j * 7 + i, none⟩ = some u := fun i u hu => (O3.out.cell hg (fun e => e) _).trans (HC.out i u hu)
      have y0 := hcl 0 _ rfl
      have y1 := hcl 1 _ rfl
      have y2 := hcl 2 _ rfl
      have y3 := hcl 3 _ rfl
      have y4 := hcl 4 _ rfl
      have y5 := hcl 5 _ rfl
      have y6 := hcl 6 _ rfl
      rw [Nat.add_zero] at y0
      simp only at y0 y1 y2 y3 y4 y5 y6
      rw [← hw3, ← hT]
      clear hw3 hT k0 k1 k2 k3 k4 k5 k6 hcl hg hg'
      go_quiet (fail)
      go_wp2_with fail
      go_roundw
      case rel => exact ⟨j + 1, by have := HLT.out; omega, next_int (by have := HL.out; have := HLT.out; omega), Lib.hid ((HJ.out.trans O3.out).drewN _)⟩
      case measure => exact meas HLT.out (by have := HL.out; omega)
    · obtain rfl : j = n := by omega
      go_wp2_with fail
      go_ret
      exact ⟨rfl, HJ.out⟩
end Go.Proofs.Ytehoiapadnbklaa
