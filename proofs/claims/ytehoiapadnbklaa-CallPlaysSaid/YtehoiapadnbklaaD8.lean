/- twice: of equal rows. -/
import Derived.Test.YtehoiapadnbklaaD7
namespace Go.Proofs.Ytehoiapadnbklaa
open Go.RowKit Go.Maps
set_option linter.unusedVariables false

def spoilt : Wt := ⟨-1, ⟨#[115, 112, 111, 105, 108, 116]⟩, 0, 0, 0, 0, false⟩
structure TLoop (w wr : World) (v : Value) (n : Nat) (l : List Wt) : Prop where
  only : Only (fun k => v.ownBlock = some k ∨ w.heap.size ≤ k) w wr
  row : WRow wr v l
  len : l.length = n
theorem spoil7 {w : World} {g off n k : Nat} {r : List Wt} {j : Nat} (h : Vec w 7 (.slice (some ⟨g, off, none⟩) n k) n (r.flatMap Wt.row)) (hj : j < r.length) (hn : n = r.length) (o : Nat) (ho : o = off + j * 7) : Vec (((((((w.setCell ⟨g, o, none⟩ (.int .i64 (-1))).setCell ⟨g, o + 1, none⟩ (.string ⟨#[115, 112, 111, 105, 108, 116]⟩)).setCell ⟨g, o + 2, none⟩ (.int .i64 0)).setCell ⟨g, o + 3, none⟩ (.int .i64 0)).setCell ⟨g, o + 4, none⟩ (.int .i64 0)).setCell ⟨g, o + 5, none⟩ (.int .i64 0)).setCell ⟨g, o + 6, none⟩ (.bool false)) 7 (.slice (some ⟨g, off, none⟩) n k) n ((r.set j spoilt).flatMap Wt.row) := by
  have h2 := h.setElem (fun y _ => rfl) hj hn spoilt rfl
  rw [← ho] at h2
  exact h2
theorem seven' {w : World} (g o n k off : Nat) (a b c d e f z : Value) : Only (fun q => (Value.slice (some ⟨g, off, none⟩) n k).ownBlock = some q) w (((((((w.setCell ⟨g, o, none⟩ a).setCell ⟨g, o + 1, none⟩ b).setCell ⟨g, o + 2, none⟩ c).setCell ⟨g, o + 3, none⟩ d).setCell ⟨g, o + 4, none⟩ e).setCell ⟨g, o + 5, none⟩ f).setCell ⟨g, o + 6, none⟩ z) :=
  ((((((((Only.refl (fun q => q = g) w).setCell (p := ⟨g, o, none⟩) rfl _).setCell (p := ⟨g, o + 1, none⟩) rfl _).setCell (p := ⟨g, o + 2, none⟩) rfl _).setCell (p := ⟨g, o + 3, none⟩) rfl _).setCell (p := ⟨g, o + 4, none⟩) rfl _).setCell (p := ⟨g, o + 5, none⟩) rfl _).setCell (p := ⟨g, o + 6, none⟩) rfl _).mono fun q _ e => by rw [e]; rfl
theorem two_rows : ∀ u ∈ Wt.zero.row ++ Wt.zero.row, u.oneCell' = true := by
  intro u hu
  rcases List.mem_append.1 hu with h | h <;> exact Wt.row_one _ u h
set_option maxRecDepth 20000 in
set_option maxHeartbeats 1000000 in
theorem twice_any {w : World} {v u : Value} {l : List Wt} (hv : WRow w v l) (hu : WRow w u l) (hl : l.length ≤ 64) : Calls Try.prog 19 #[v, u] w fun e w' => e = .returned (.bool true) ∧ Only (fun k => v.ownBlock = some k ∨ w.heap.size ≤ k) w w' := by
  have HS := Lib.hid (same_any hv hu (by omega))
  obtain ⟨a, k, rfl⟩ := hv.shape
  obtain ⟨b, m, rfl⟩ := hu.shape
  have HV := Lib.hid (And.intro hv hu)
  obtain ⟨n, hn⟩ : ∃ n, n = l.length := ⟨_, rfl⟩
  have HL := Lib.hid (And.intro hn hl)
  rw [← hn] at HV HS ⊢
  clear hv hu hn hl
  go_enter Try.func19, Try.ntmps19
  go_wp2_with fail
  refine HS.out.mono ?_
  rintro e w1 ⟨rfl, o1⟩
  have O1 := Lib.hid o1
  clear o1 HS
  go_wp2_with fail
  go_loopw [6] (fun i wr => ∃ (j : Nat) (r : List Wt), j ≤ n ∧ i = .int .i64 (j : Int) ∧ Hid (TLoop w wr (.slice a n k) n r)) (fun i wr => n - (intOf i).toNat)
  case atStart => exact ⟨0, l, by omega, rfl, Lib.hid ⟨O1.out.mono fun _ _ e => e.elim, HV.out.1.only O1.out fun _ _ e => e, HL.out.1.symm⟩⟩
  case round =>
    obtain ⟨j, r, hj, rfl, HJ⟩ := hrel
    by_cases hlt : j < n
    · have hjl : j < r.length := by have := HJ.out.len; omega
      obtain ⟨g, off, cp, e, hg, hcell, hth⟩ := HJ.out.row.at_ hjl
      injection e with e e2 e3
      subst e
      clear e2 e3
      obtain ⟨x, hx⟩ : ∃ x, x = r[j] := ⟨_, rfl⟩
      rw [← hx] at hcell
      clear hx
      obtain ⟨z1, z2, z3, z4, z5, z6, z7⟩ := x
      have k0 := hcell 0 _ rfl
      have k1 := hcell 1 _ rfl
      have k2 := hcell 2 _ rfl
      have k3 := hcell 3 _ rfl
      have k4 := hcell 4 _ rfl
      have k5 := hcell 5 _ rfl
      have k6 := hcell 6 _ rfl
      have f0 := hth 0 (by decide)
      have f1 := hth 1 (by decide)
      have f2 := hth 2 (by decide)
      have f3 := hth 3 (by decide)
      have f4 := hth 4 (by decide)
      have f5 := hth 5 (by decide)
      have f6 := hth 6 (by decide)
      rw [Nat.add_zero] at k0 f0
      simp only at k0 k1 k2 k3 k4 k5 k6
      have i0 : (0 : Int) ≤ (j : Int) := by omega
      have i1 : (j : Int) < (n : Int) := by omega
      have HLT := Lib.hid hlt
      have HJL := Lib.hid hjl
      clear hlt hj hjl hcell hth
      go_wp2_with fail
      go_roundw
      case rel =>
        refine ⟨j + 1, r.set j spoilt, by have := HLT.out; omega, next_int (by have := HL.out; have := HLT.out; omega), Lib.hid ⟨?_, ⟨?_⟩, by rw [List.length_set]; exact HJ.out.len⟩⟩
        · exact HJ.out.only.trans ((seven' g (off + j * 7) n k off _ _ _ _ _ _ _).mono fun q _ e => Or.inl e)
        · have h1 := HJ.out.row.row
          rw [HJ.out.len] at h1
          rw [List.length_set, HJ.out.len]
          exact spoil7 h1 HJL.out HJ.out.len.symm _ rfl
      case measure => exact meas HLT.out (by have := HL.out; omega)
    · obtain rfl : j = n := by omega
      have HR := Lib.hid (rd_new wr (Wt.zero.row ++ Wt.zero.row) 36 2 7 rfl (by decide))
      have HVV := Lib.hid HJ.out.row.row
      rw [HJ.out.len] at HVV
      go_wp2_with (first | (at_builtin; refine wpList_append_any rfl _ _ 47 rfl 36 Try.t36 Wt.zero.v 7 64 Try.underlying47 info36 t36_zero t36_size t36_bytes rfl (by decide) (.slice a j k) j (r.flatMap Wt.row) rfl (HVV.out.alloc _) (.slice (some ⟨wr.heap.size, 0, none⟩) 2 2) 2 (Wt.zero.row ++ Wt.zero.row) rfl HR.out two_rows (by have h1 := HL.out; unfold maxLen; omega) (by have h1 := HL.out; omega) ?_; intro v2 w5 hv2 hg2 hf2; obtain ⟨oa2, oc2, rfl, _, _⟩ := hv2.shape; have HY := Lib.hid (And.intro hv2 (And.intro hg2 hf2)); clear hv2 hg2 hf2))
      go_ret
      refine ⟨?_, ?_⟩
      · have e : ((j : Int) + 2 == wrap64 ((j : Int) + 2)) = true := by
          rw [IntWalk.wrap64_in _ (by have := HL.out; omega)]
          simp
        rw [e]
        rfl
      · refine (HJ.out.only.alloc _).trans (((Only.refl _ _).grown HY.out.2.1 fun g hg => hg).mono fun q _ e => Or.inl e)
end Go.Proofs.Ytehoiapadnbklaa
