/- same, twice: of equal rows. -/
import Derived.Test.YtfjfpnlcmjpofaaPE
namespace Go.Proofs.Ytfjfpnlcmjpofaa
open Go.RowKit Go.Maps Go.Sort Go.Shelf
set_option linter.unusedVariables false

set_option maxRecDepth 20000 in
set_option maxHeartbeats 1000000 in
theorem same_any {w : World} {v u : Value} {l : List Ls} (hv : Vec w 4 v l.length (l.flatMap Ls.row)) (hu : Vec w 4 u l.length (l.flatMap Ls.row)) (hl : l.length ≤ 1048575) : Calls Try.prog 26 #[v, u] w fun e w' => e = .returned (.bool true) ∧ Only None' w w' := by
  obtain ⟨a, k, rfl, _, _⟩ := hv.shape
  obtain ⟨b, m, rfl, _, _⟩ := hu.shape
  have HV := Lib.hid (And.intro hv hu)
  obtain ⟨n, hn⟩ : ∃ n, n = l.length := ⟨_, rfl⟩
  have HL := Lib.hid (And.intro hn hl)
  rw [← hn] at HV ⊢
  clear hv hu hn hl
  have HML : Hid (n ≤ maxLen) := Lib.hid (by have := HL.out; unfold maxLen; omega)
  go_enter Try.func26, Try.ntmps26
  go_wp2_with fail
  go_loopw [5] (fun i wr => ∃ j : Nat, j ≤ n ∧ i = .int .i64 (j : Int) ∧ Hid (Only None' w wr)) (fun i wr => n - (intOf i).toNat)
  case atStart => exact ⟨0, by omega, rfl, Lib.hid (Only.refl _ _)⟩
  case round =>
    obtain ⟨j, hj, rfl, HJ⟩ := hrel
    by_cases hlt : j < n
    · have hjl : j < l.length := by have := HL.out.1; omega
      obtain ⟨g, off, rfl, hg, hcell, _⟩ := (HV.out.1.only HJ.out fun _ _ e => e).form' (by omega)
      obtain ⟨g', off', rfl, hg', hcell', _⟩ := (HV.out.2.only HJ.out fun _ _ e => e).form' (by omega)
      obtain ⟨x, hx⟩ : ∃ x, x = l[j] := ⟨_, rfl⟩
      have hc : ∀ i u, (Ls.row x)[i]? = some u → wr.cell? ⟨g, off + j * 4 + i, none⟩ = some u := fun i u h => by
        rw [hx] at h
        have := hcell (j * 4 + i) u (flat_at Ls.row 4 l j (fun y _ => rfl) hjl i u h)
        rwa [← Nat.add_assoc] at this
      have hc' : ∀ i u, (Ls.row x)[i]? = some u → wr.cell? ⟨g', off' + j * 4 + i, none⟩ = some u := fun i u h => by
        rw [hx] at h
        have := hcell' (j * 4 + i) u (flat_at Ls.row 4 l j (fun y _ => rfl) hjl i u h)
        rwa [← Nat.add_assoc] at this
      clear hx hcell hcell'
      obtain ⟨x0, x1, x2, x3⟩ := x
      have k0 := hc 0 _ rfl
      have k1 := hc 1 _ rfl
      have k2 := hc 2 _ rfl
      have k3 := hc 3 _ rfl
      have y0 := hc' 0 _ rfl
      have y1 := hc' 1 _ rfl
      have y2 := hc' 2 _ rfl
      have y3 := hc' 3 _ rfl
      rw [Nat.add_zero] at k0 y0
      simp only at k0 k1 k2 k3 y0 y1 y2 y3
      have i0 : (0 : Int) ≤ (j : Int) := by omega
      have i1 : (j : Int) < (n : Int) := by omega
      have HLT := Lib.hid hlt
      clear hlt hj hjl hc hc' hg hg'
      go_wp2_with fail
      go_quiet (fail)
      go_wp2_with fail
      go_roundw
      case rel => exact ⟨j + 1, by have := HLT.out; omega, next_len HLT.out HML.out, Lib.hid (HJ.out.drewN _)⟩
      case measure => exact meas_len HLT.out HML.out
    · obtain rfl : j = n := by omega
      go_wp2_with fail
      go_ret
      exact ⟨rfl, HJ.out⟩
def spoilt : Ls := ⟨⟨#[115, 112, 111, 105, 108, 116]⟩, 0, 0, 0⟩
structure TLoop (w wr : World) (v : Value) (n : Nat) (l : List Ls) : Prop where
  only : Only (fun k => v.ownBlock = some k ∨ w.heap.size ≤ k) w wr
  row : Vec wr 4 v n (l.flatMap Ls.row)
  len : l.length = n
theorem two_rows : ∀ u ∈ Ls.zero.row ++ Ls.zero.row, u.oneCell' = true := by
  intro u hu
  rcases List.mem_append.1 hu with h | h <;> exact Ls.row_one _ u h
set_option maxRecDepth 20000 in
set_option maxHeartbeats 1000000 in
theorem twice_any {w : World} {v u : Value} {l : List Ls} (hv : Vec w 4 v l.length (l.flatMap Ls.row)) (hu : Vec w 4 u l.length (l.flatMap Ls.row)) (hl : l.length ≤ 1048575) : Calls Try.prog 21 #[v, u] w fun e w' => e = .returned (.bool true) ∧ Only (fun k => v.ownBlock = some k ∨ w.heap.size ≤ k) w w' := by
  have HS := Lib.hid (same_any hv hu hl)
  obtain ⟨a, k, rfl, _, _⟩ := hv.shape
  obtain ⟨b, m, rfl, _, _⟩ := hu.shape
  have HV := Lib.hid (And.intro hv hu)
  obtain ⟨n, hn⟩ : ∃ n, n = l.length := ⟨_, rfl⟩
  have HL := Lib.hid (And.intro hn hl)
  rw [← hn] at HV HS ⊢
  clear hv hu hn hl
  have HML : Hid (n ≤ maxLen) := Lib.hid (by have := HL.out; unfold maxLen; omega)
  go_enter Try.func21, Try.ntmps21
  go_wp2_with fail
  refine HS.out.mono ?_
  rintro e w1 ⟨rfl, o1⟩
  have O1 := Lib.hid o1
  clear o1 HS
  go_wp2_with fail
  go_loopw [6] (fun i wr => ∃ (j : Nat) (r : List Ls), j ≤ n ∧ i = .int .i64 (j : Int) ∧ Hid (TLoop w wr (.slice a n k) n r)) (fun i wr => n - (intOf i).toNat)
  case atStart => exact ⟨0, l, by omega, rfl, Lib.hid ⟨O1.out.mono fun _ _ e => e.elim, HV.out.1.only O1.out fun _ _ e => e, HL.out.1.symm⟩⟩
  case round =>
    obtain ⟨j, r, hj, rfl, HJ⟩ := hrel
    by_cases hlt : j < n
    · have hjl : j < r.length := by have := HJ.out.len; omega
      obtain ⟨g, off, rfl, hg, hcell, hth⟩ := HJ.out.row.form' (by omega)
      have f0 := HJ.out.row.free (k := j * 4) (by omega)
      have f1 := HJ.out.row.free (k := j * 4 + 1) (by omega)
      have f2 := HJ.out.row.free (k := j * 4 + 2) (by omega)
      have f3 := HJ.out.row.free (k := j * 4 + 3) (by omega)
      rw [← Nat.add_assoc] at f1 f2 f3
      obtain ⟨u0', k0⟩ := Option.isSome_iff_exists.1 f0.1
      obtain ⟨u1', k1⟩ := Option.isSome_iff_exists.1 f1.1
      obtain ⟨u2', k2⟩ := Option.isSome_iff_exists.1 f2.1
      obtain ⟨u3', k3⟩ := Option.isSome_iff_exists.1 f3.1
      have z0 := f0.2
      have z1 := f1.2
      have z2 := f2.2
      have z3 := f3.2
      have i0 : (0 : Int) ≤ (j : Int) := by omega
      have i1 : (j : Int) < (n : Int) := by omega
      have HLT := Lib.hid hlt
      have HJL := Lib.hid hjl
      clear hlt hj hjl hcell hth f0 f1 f2 f3
      go_wp2_with fail
      go_roundw
      case rel =>
        refine ⟨j + 1, r.set j spoilt, by have := HLT.out; omega, next_len HLT.out HML.out, Lib.hid ⟨?_, ?_, by rw [List.length_set]; exact HJ.out.len⟩⟩
        · exact HJ.out.only.trans ((four wr g (off + j * 4) _ _ _ _).mono fun q _ e => Or.inl (by rw [e]; rfl))
        · exact setRow4 HJ.out.row HJL.out HJ.out.len.symm _ 0 0 0
      case measure => exact meas_len HLT.out HML.out
    · obtain rfl : j = n := by omega
      have HR := Lib.hid (rd_new wr (Ls.zero.row ++ Ls.zero.row) 57 2 4 rfl (by decide))
      go_wp2_with (first | (at_builtin; refine wpList_append_any rfl _ _ 47 rfl 57 Try.t57 Ls.zero.v 4 40 under47 info57 t57_zero t57_size t57_bytes rfl (by decide) (.slice a j k) j (r.flatMap Ls.row) rfl (HJ.out.row.alloc _) (.slice (some ⟨wr.heap.size, 0, none⟩) 2 2) 2 (Ls.zero.row ++ Ls.zero.row) rfl HR.out two_rows (by have h1 := HL.out; unfold maxLen; omega) (by have h1 := HL.out; omega) ?_; intro v2 w5 hv2 hg2 hf2; obtain ⟨oa2, oc2, rfl, _, _⟩ := hv2.shape; have HY := Lib.hid (And.intro hv2 (And.intro hg2 hf2)); clear hv2 hg2 hf2))
      go_ret
      refine ⟨?_, ?_⟩
      · have e : ((j : Int) + 2 == wrap64 ((j : Int) + 2)) = true := by
          rw [IntWalk.wrap64_in _ (by have := HL.out; omega)]
          simp
        first | rfl | (rw [e]; rfl)
      · refine (HJ.out.only.alloc _).trans (((Only.refl _ _).grown HY.out.2.1 fun g hg => hg).mono fun q _ e => Or.inl e)
end Go.Proofs.Ytfjfpnlcmjpofaa
