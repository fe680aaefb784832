/- Mark, Due, Old, All. -/
import Derived.Test.YtfmpidacklhmaaaS3
namespace Go.Proofs.Ytfmpidacklhmaaa
open Go.RowKit Go.Maps
set_option linter.unusedVariables false
set_option maxRecDepth 20000

def agoB (t now n : Int) : Bool := decide (1 ≤ n) && (decide (t ≤ now) && decide (n ≤ wrap64 (now - t)))
theorem ago_any (t now n : Int) (w : World) : Calls Try.prog 33 #[.int .i64 t, .int .i64 now, .int .i64 n] w fun e w' => e = .returned (.bool (agoB t now n)) ∧ w = w' := by
  unfold agoB
  cases h1 : decide (1 ≤ n) <;> cases h2 : decide (t ≤ now)
  all_goals (
    go_enter Try.func33, Try.ntmps33
    go_wp2_with fail
    go_ret
    first | exact ⟨rfl, rfl⟩ | exact ⟨by rw [h1, h2]; rfl, rfl⟩)
theorem same_str (a b : ByteArray) : (a.toList == b.toList) = decide (a = b) := by
  rw [Bool.eq_iff_iff, beq_iff_eq, decide_eq_true_eq, ByteArray.toList_eq, ByteArray.toList_eq, Array.toList_inj]
  constructor
  · intro h
    cases a; cases b; simp_all
  · rintro rfl; rfl
theorem key_any (x : Wt) (K : Nat) (key : ByteArray) (w : World) (hk : w.cell? ⟨K, 0, none⟩ = some (.string key)) (hl : K < w.heap.size) : Calls Try.prog 55 #[x.v, .pointer (some ⟨K, 0, none⟩)] w fun e w' => e = .returned (.bool (decide (x.key = key))) ∧ Only None' w w' := by
  obtain ⟨x1, x2, x3, x4, x5, x6, x7⟩ := x
  unfold Wt.v
  simp only
  go_enter Try.func55, Try.ntmps55
  go_wp2_with fail
  go_ret
  exact ⟨by rw [← same_str]; rfl, (Only.refl _ _).alloc _⟩
theorem old_any (x : Wt) (K N : Nat) (now every : Int) (w : World) (hk : w.cell? ⟨K, 0, none⟩ = some (.int .i64 now)) (hl : K < w.heap.size) (hn : w.cell? ⟨N, 0, none⟩ = some (.int .i64 every)) (hln : N < w.heap.size) : Calls Try.prog 32 #[x.v, .pointer (some ⟨K, 0, none⟩), .pointer (some ⟨N, 0, none⟩)] w fun e w' => e = .returned (.bool (agoB x.first now every)) ∧ Only None' w w' := by
  obtain ⟨x1, x2, x3, x4, x5, x6, x7⟩ := x
  unfold Wt.v
  simp only
  go_enter Try.func32, Try.ntmps32
  go_wp2_with fail
  refine (ago_any _ _ _ _).mono ?_
  rintro e w' ⟨rfl, rfl⟩
  go_wp2_with fail
  go_ret
  exact ⟨rfl, (Only.refl _ _).alloc _⟩
theorem some_nil (f : Value) (w : World) : Calls Try.prog 31 #[.pointer none, f] w fun e w' => e = .returned (.slice none 0 0) ∧ w = w' := by
  go_enter Try.func31, Try.ntmps31
  go_wp2_with fail
  go_ret
  exact ⟨rfl, rfl⟩
theorem call55 (args : Array Value) (w : World) : (callFunc 55 args).run Try.prog w = .ok (.enter 55 args) w := by go_simp
theorem call32 (args : Array Value) (w : World) : (callFunc 32 args).run Try.prog w = .ok (.enter 32 args) w := by go_simp
end Go.Proofs.Ytfmpidacklhmaaa
