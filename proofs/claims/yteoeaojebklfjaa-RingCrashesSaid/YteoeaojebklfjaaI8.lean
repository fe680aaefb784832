/- Same, at records that are the same: the walk. -/
import Derived.Test.YteoeaojebklfjaaI1
import Derived.Test.YteoeaojebklfjaaR7
import Derived.Test.YteoeaojebklfjaaE8
namespace Go.Proofs.Yteoeaojebklfjaa
open Go.RowKit Go.Maps
set_option linter.unusedVariables false

theorem conv_row {w : World} {x : Value} {s : Sec} (h : Vec w 1 x s.length (bv s)) : (convert 34 9 x).run Try.prog w = .ok (.string ⟨s.toArray⟩) w := by
  rcases h.form with ⟨rfl, h0⟩ | ⟨g, off, cap, rfl, _, _, _, hc, _⟩
  · have : s = [] := List.eq_nil_of_length_eq_zero h0
    subst this
    exact conv_nil w
  · exact run_convert_bytes_back (P := Try.prog) w 34 9 5 ⟨g, off, none⟩ cap s Try.underlying34 Try.underlying5 Try.underlying9 (fun j hj => by
      rw [add_mid' (⟨g, off, none⟩) j rfl]
      exact hc j _ (by simp [bv, List.getElem?_eq_getElem hj]))
theorem next_len {k n : Nat} (h : k < n) (hn : n ≤ maxLen) : Value.int .i64 (wrap64 ((k : Int) + 1)) = .int .i64 ((k + 1 : Nat) : Int) := by
  unfold maxLen at hn
  rw [IntWalk.wrap64_in _ (by omega)]; rfl
theorem meas_len {n k : Nat} (h : k < n) (hn : n ≤ maxLen) : n - (intOf (.int .i64 (wrap64 ((k : Int) + 1)))).toNat < n - (intOf (.int .i64 (k : Int))).toNat := by
  rw [next_len h hn]
  simp only [intOf]
  omega
/-- one record -/
theorem Recs.at_ {w : World} {P : Nat → Prop} {v : Value} {rs : List (List UInt8)} (h : Recs w P v rs) {j : Nat} (hj : j < rs.length) : ∃ g off c x, v = .slice (some ⟨g, off, none⟩) rs.length c ∧ rs.length ≤ c ∧ w.cell? ⟨g, off + j, none⟩ = some x ∧ Vec w 1 x rs[j].length (bv rs[j]) ∧ (∀ k, x.ownBlock = some k → P k ∧ v.ownBlock ≠ some k) ∧ P g := by
  obtain ⟨h1, xs, h2, h3⟩ := h
  obtain ⟨g, off, c, rfl, hc, _, _, h4, _⟩ := h2.at_ (by omega)
  obtain ⟨x, a, b, e⟩ := h3 j hj
  exact ⟨g, off, c, x, rfl, hc, h4 j x a, b, e, h1 g rfl⟩
theorem Recs.drewN {w : World} {P : Nat → Prop} {v : Value} {rs : List (List UInt8)} (h : Recs w P v rs) (q : Nat) : Recs (w.drewN q) P v rs := h.only ((Only.refl None' w).drewN q) fun _ _ e => e

set_option maxRecDepth 20000 in
set_option maxHeartbeats 2000000 in
theorem same_any {w : World} {P P' : Nat → Prop} {v v' : Value} {rs : List (List UInt8)} (h : Recs w P v rs) (h' : Recs w P' v' rs) : Calls Try.prog 42 #[v, v'] w fun e w' => e = .returned (.bool true) ∧ ∃ q, w' = w.drewN q := by
  obtain ⟨a, c, rfl⟩ := h.shape
  obtain ⟨a', c', rfl⟩ := h'.shape
  have hsz := h.size
  obtain ⟨n, hn⟩ : ∃ n, n = rs.length := ⟨_, rfl⟩
  have H1 := Lib.hid h
  have H2 := Lib.hid h'
  have HS := Lib.hid hsz
  have HN := Lib.hid hn
  rw [← hn]
  have HM := Lib.hid (show n ≤ maxLen by rw [hn]; exact hsz)
  clear h h' hsz hn
  go_enter Try.func42, Try.ntmps42
  go_wp2_with fail
  go_loopw [5] (fun i wr => ∃ (k q : Nat), k ≤ n ∧ i = .int .i64 (k : Int) ∧ Hid (wr = w.drewN q)) (fun i wr => n - (intOf i).toNat)
  case atStart => exact ⟨0, 0, by omega, rfl, rfl⟩
  case round =>
    obtain ⟨k, q, hk, rfl, HW⟩ := hrel
    by_cases hlt : k < n
    · have hj : k < rs.length := by have := HN.out; omega
      have e1 := H1.out
      have e2 := H2.out
      obtain ⟨g, off, c1, x, ea, _, hx, vx, _, _⟩ := (e1.drewN (q + 1)).at_ hj
      obtain ⟨g', off', c2, x', ea', _, hx', vx', _, _⟩ := (e2.drewN (q + 1)).at_ hj
      rw [← HN.out] at ea ea'
      injection ea with ea _ ec
      injection ea' with ea' _ ec'
      subst ea ea' ec ec'
      have hwr : wr.drew = w.drewN (q + 1) := by rw [HW.out]; rfl
      rw [← hwr] at hx hx' vx vx'
      obtain ⟨s, hs⟩ : ∃ s : ByteArray, s = ⟨rs[k].toArray⟩ := ⟨_, rfl⟩
      have cv := conv_row vx
      have cv' := conv_row vx'
      rw [← hs] at cv cv'
      have i0 : (0 : Int) ≤ (k : Int) := by omega
      have i1 : (k : Int) < (n : Int) := by omega
      obtain ⟨wd, hwd⟩ : ∃ wd, wd = wr.drew := ⟨_, rfl⟩
      rw [← hwd] at hx hx' cv cv'
      have HWD := Lib.hid hwd
      have HWR := Lib.hid hwr
      clear e1 e2 vx vx' hs hwd hwr hj
      go_wp2_with fail
      refine wp_region_still_lit (by kernel_rfl) (by kernel_rfl) ?_
      change wpStill _ _ wr.drew _ _ _
      rw [← HWD.out]
      still_step
      still_step
      still_step
      still_step
      refine wpStill_convert 34 9 _ rfl (by rfl) _ _ rfl cv ?_
      simp only [Act.put, List.setIfInBounds_toArray, List.set_cons_zero, List.set_cons_succ]
      still_step
      still_step
      still_step
      still_step
      refine wpStill_convert 34 9 _ rfl (by rfl) _ _ rfl cv' ?_
      simp only [Act.put, List.setIfInBounds_toArray, List.set_cons_zero, List.set_cons_succ]
      still_step
      refine wpStill_nil ?_
      go_wp2_with fail
      go_roundw
      case rel => exact ⟨k + 1, q + 1, by omega, next_len hlt HM.out, HWR⟩
      case measure => exact meas_len hlt HM.out
    · obtain rfl : k = n := by omega
      go_wp2_with fail
      go_ret
      exact ⟨rfl, q, HW.out⟩
end Go.Proofs.Yteoeaojebklfjaa
