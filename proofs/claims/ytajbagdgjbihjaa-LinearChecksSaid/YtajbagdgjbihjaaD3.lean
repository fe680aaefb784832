/- slices.Clone (34) of pairs; put (37), DeleteFunc (35), Insert (46) where there is no pair but the key's. -/
import Derived.Test.YtajbagdgjbihjaaD2
import Derived.Test.YtajbagdgjbihjaaR0
import Derived.Lib.SliceRun
namespace Go.Proofs.Ytajbagdgjbihjaa
open Go.RowKit Go.Maps
set_option linter.unusedVariables false

theorem under65 : Try.prog.underlying 65 = some (.slice 67) := by kernel_rfl
theorem info67 : Try.prog.info? 67 = some Try.t67 := by kernel_rfl
theorem t67_zero : Try.t67.zero = some (pairV ⟨#[]⟩ ⟨#[]⟩) := by kernel_rfl
theorem t67_size : Try.t67.size = 2 := by kernel_rfl
theorem t67_bytes : Try.t67.bytes = 32 := by kernel_rfl
theorem flat_one (ps : List Pr) : ∀ u ∈ ps.flatMap pairR, u.oneCell' = true := by
  intro u hu
  obtain ⟨p, hp, hu⟩ := List.mem_flatMap.1 hu
  exact pairR_one p u hu
theorem made_nil (w : World) (e : TypeId) (size : Nat) : Vec (w.alloc (.cells #[] e)) size (.slice (some ⟨w.heap.size, 0, none⟩) 0 0) 0 [] :=
  ⟨by simp, .inr ⟨w.heap.size, 0, 0, rfl, Nat.le_refl _, Nat.zero_le _, by simp, fun j u hu => by simp at hu, fun j hj => by omega⟩⟩
theorem eql_nil65 (w : World) (a : Option Addr) (n c : Nat) : (binOp .eql 65 (.slice a n c) (.slice none 0 0)).run Try.prog w = .ok (.bool a.isNone) w := Lib.run_eql_slice_nil w _ _ a n c 0 0 under65
/-- a row of pairs of the call's own -/
structure PNew (w w' : World) (v : Value) (ps : List Pr) : Prop where
  row : PRow w' v ps
  fresh : ∀ g, v.ownBlock = some g → w.heap.size ≤ g
  only : Only None' w w'
set_option maxRecDepth 20000 in
set_option maxHeartbeats 1000000 in
theorem clone_any {w : World} {v : Value} {ps : List Pr} (h : PRow w v ps) (hn : ps.length ≤ 100000) : Calls Try.prog 34 #[v] w fun e w' => ∃ v', e = .returned v' ∧ PNew w w' v' ps := by
  have q65 := eql_nil65
  rcases h.row.form with ⟨rfl, h0⟩ | ⟨g, off, cap, rfl, h1, h2, h3, h4, h5⟩
  · have : ps = [] := List.length_eq_zero_iff.1 h0
    subst this
    clear h
    go_enter Try.func34, Try.ntmps34
    go_wp2_with fail
    go_ret
    exact ⟨_, rfl, PRow.nil _, (fun g hg => by cases hg), Only.refl _ _⟩
  · have H := Lib.hid (And.intro h.row hn)
    have G : Hid (∀ j u, (ps.flatMap pairR)[j]? = some u → (w.alloc (.cells #[] 67)).cell? ((⟨g, off, none⟩ : Addr).add j) = some u) := Lib.hid fun j u hu => by
      rw [add_mid' (⟨g, off, none⟩) j rfl]
      exact Lib.cell?_alloc_some _ (h4 j u hu)
    obtain ⟨n, hnn⟩ : ∃ n, n = ps.length := ⟨_, rfl⟩
    rw [← hnn] at H
    have HL := Lib.hid hnn
    rw [← hnn]
    clear h hn h4 h5 h3 hnn
    go_enter Try.func34, Try.ntmps34
    go_wp2_with (at_builtin; go_loud (refine wpList_vec_append _ rfl _ _ 65 rfl 67 Try.t67 (pairV ⟨#[]⟩ ⟨#[]⟩) 2 32 under65 info67 t67_zero t67_size t67_bytes rfl (by decide) _ _ _ rfl (made_nil w _ _) ⟨g, off, none⟩ n cap (ps.flatMap pairR) rfl H.out.1.len G.out (flat_one ps) (by have := H.out.2; unfold maxLen; omega) (by have := H.out.2; omega) ?_; intro v' w1 hv hg hf))
    go_ret
    rw [Nat.zero_add, List.nil_append] at hv
    refine ⟨_, rfl, ⟨by rw [← HL.out]; exact hv⟩, fun k hk => ?_, Only.of_below (((Below.refl _ w).alloc (Nat.le_refl _) _).grown hg (by simp) (by intro k hk; have hk : some w.heap.size = some k := hk; injection hk with hk; omega)) _⟩
    rcases hf k hk with h | h
    · have h : some w.heap.size = some k := h
      injection h with h; omega
    · simp at h; omega
/-! ### Insert -/
/-- a pair is put into a row at a place -/
def InsOK (ps : List Pr) (i : Nat) : Prop := ∀ (w : World) (v u : Value) (x : Pr), PRow w v ps → Vec w 2 u 1 (pairR x) → (∀ g, u.ownBlock = some g → v.ownBlock ≠ some g) → (∀ g, u.ownBlock = some g → ∃ c t, w.heap[g]? = some (.cells c t)) → Calls Try.prog 46 #[v, .int .i64 (i : Int), u] w fun e w' => ∃ v', e = .returned v' ∧ PRow w' v' (ps.take i ++ x :: ps.drop i) ∧ (∀ g, v'.ownBlock = some g → v.ownBlock = some g ∨ w.heap.size ≤ g) ∧ Only (fun g => v.ownBlock = some g) w w'
set_option maxRecDepth 20000 in
set_option maxHeartbeats 1000000 in
theorem ins_end {ps : List Pr} (hn : ps.length ≤ 100000) : InsOK ps ps.length := by
  intro w v u x h hu hne _
  obtain ⟨b, k, rfl, _, _⟩ := hu.shape
  obtain ⟨n, hnn⟩ : ∃ n, n = ps.length := ⟨_, rfl⟩
  have e1 : ps.take n ++ x :: ps.drop n = ps ++ [x] := by rw [List.take_of_length_le (by omega), List.drop_of_length_le (by omega)]
  have HL := Lib.hid (And.intro hnn (And.intro hn e1))
  rcases h.row.form with ⟨rfl, h0⟩ | ⟨g, off, cap, rfl, h1, h2, h3, h4, h5⟩
  · rw [← hnn] at h0
    have H := Lib.hid (And.intro h.row hu)
    rw [← hnn] at H ⊢
    rw [h0] at H ⊢
    have HN := Lib.hid h0
    clear h hu hn hnn hne h0 e1
    go_enter Try.func46, Try.ntmps46
    go_wp2_with (first | (at_builtin; refine wpList_append_any rfl _ _ 65 rfl 67 Try.t67 (pairV ⟨#[]⟩ ⟨#[]⟩) 2 32 under65 info67 t67_zero t67_size t67_bytes rfl (by decide) (.slice none 0 0) 0 (ps.flatMap pairR) rfl H.out.1 (.slice b 1 k) 1 (pairR x) rfl H.out.2.rd (pairR_one x) (by unfold maxLen; omega) (by omega) ?_; intro v' w1 hv hg hf))
    all_goals (
      go_ret
      refine ⟨v', rfl, ⟨?_⟩, hf, (Only.refl _ _).grown hg fun g hg => hg⟩
      have h := HL.out.2.2
      rw [HN.out] at h
      rw [h, List.length_append, List.length_singleton, List.flatMap_append, List.flatMap_singleton, ← HL.out.1, HN.out]
      exact hv)
  · have H := Lib.hid (And.intro h.row hu)
    rw [← hnn] at H h1 ⊢
    have i0 : (0 : Int) ≤ (n : Int) := by omega
    have i1 : ¬ (n : Int) < 0 := by omega
    have HC := Lib.hid h1
    clear h hu hn hnn hne e1 h3 h4 h5
    go_enter Try.func46, Try.ntmps46
    go_wp2_with (first | (at_builtin; refine wpList_append_any rfl _ _ 65 rfl 67 Try.t67 (pairV ⟨#[]⟩ ⟨#[]⟩) 2 32 under65 info67 t67_zero t67_size t67_bytes rfl (by decide) (.slice (some ⟨g, off, none⟩) n cap) n (ps.flatMap pairR) rfl H.out.1 (.slice b 1 k) 1 (pairR x) rfl H.out.2.rd (pairR_one x) (by have h1 := HL.out.1; have h2 := HL.out.2.1; unfold maxLen; omega) (by have h1 := HL.out.1; have h2 := HL.out.2.1; omega) ?_; intro v' w1 hv hg hf))
    all_goals (
      go_ret
      refine ⟨v', rfl, ⟨?_⟩, hf, (Only.refl _ _).grown hg fun g hg => hg⟩
      rw [HL.out.2.2, List.length_append, List.length_singleton, List.flatMap_append, List.flatMap_singleton, ← HL.out.1]
      exact hv)
end Go.Proofs.Ytajbagdgjbihjaa
