/- Mark, Due, Old, All. -/
import Derived.Test.YtehoiapadnbklaaS3
namespace Go.Proofs.Ytehoiapadnbklaa
open Go.RowKit Go.Maps
set_option linter.unusedVariables false

def agoB (t now n : Int) : Bool := decide (1 ≤ n) && (decide (t ≤ now) && decide (n ≤ wrap64 (now - t)))
theorem ago_any (t now n : Int) (w : World) : Calls Try.prog 28 #[.int .i64 t, .int .i64 now, .int .i64 n] w fun e w' => e = .returned (.bool (agoB t now n)) ∧ w = w' := by
  unfold agoB
  cases h1 : decide (1 ≤ n) <;> cases h2 : decide (t ≤ now)
  all_goals (
    go_enter Try.func28, Try.ntmps28
    go_wp2_with fail
    go_ret
    first | exact ⟨rfl, rfl⟩ | exact ⟨by rw [h1, h2]; rfl, rfl⟩)
theorem same_str (a b : ByteArray) : (a.toList == b.toList) = decide (a = b) := by
  rw [Bool.eq_iff_iff, beq_iff_eq, decide_eq_true_eq, ByteArray.toList_eq, ByteArray.toList_eq, Array.toList_inj]
  constructor
  · intro h
    cases a; cases b; simp_all
  · rintro rfl; rfl
theorem key_any (x : Wt) (K : Nat) (key : ByteArray) (w : World) (hk : w.cell? ⟨K, 0, none⟩ = some (.string key)) (hl : K < w.heap.size) : Calls Try.prog 26 #[x.v, .pointer (some ⟨K, 0, none⟩)] w fun e w' => e = .returned (.bool (decide (x.key = key))) ∧ Only None' w w' := by
  obtain ⟨x1, x2, x3, x4, x5, x6, x7⟩ := x
  unfold Wt.v
  simp only
  go_enter Try.func26, Try.ntmps26
  go_wp2_with fail
  go_ret
  exact ⟨by rw [← same_str]; rfl, (Only.refl _ _).alloc _⟩
theorem due_any (x : Wt) (K N : Nat) (now every : Int) (w : World) (hk : w.cell? ⟨K, 0, none⟩ = some (.int .i64 now)) (hl : K < w.heap.size) (hn : w.cell? ⟨N, 0, none⟩ = some (.int .i64 every)) (hln : N < w.heap.size) : Calls Try.prog 27 #[x.v, .pointer (some ⟨K, 0, none⟩), .pointer (some ⟨N, 0, none⟩)] w fun e w' => e = .returned (.bool (agoB x.last now every)) ∧ Only None' w w' := by
  obtain ⟨x1, x2, x3, x4, x5, x6, x7⟩ := x
  unfold Wt.v
  simp only
  go_enter Try.func27, Try.ntmps27
  go_wp2_with fail
  refine (ago_any _ _ _ _).mono ?_
  rintro e w' ⟨rfl, rfl⟩
  go_wp2_with fail
  go_ret
  exact ⟨rfl, (Only.refl _ _).alloc _⟩
theorem old_any (x : Wt) (K N : Nat) (now every : Int) (w : World) (hk : w.cell? ⟨K, 0, none⟩ = some (.int .i64 now)) (hl : K < w.heap.size) (hn : w.cell? ⟨N, 0, none⟩ = some (.int .i64 every)) (hln : N < w.heap.size) : Calls Try.prog 30 #[x.v, .pointer (some ⟨K, 0, none⟩), .pointer (some ⟨N, 0, none⟩)] w fun e w' => e = .returned (.bool (agoB x.first now every)) ∧ Only None' w w' := by
  obtain ⟨x1, x2, x3, x4, x5, x6, x7⟩ := x
  unfold Wt.v
  simp only
  go_enter Try.func30, Try.ntmps30
  go_wp2_with fail
  refine (ago_any _ _ _ _).mono ?_
  rintro e w' ⟨rfl, rfl⟩
  go_wp2_with fail
  go_ret
  exact ⟨rfl, (Only.refl _ _).alloc _⟩
theorem all_any (x : Wt) (w : World) : Calls Try.prog 31 #[x.v] w fun e w' => e = .returned (.bool true) ∧ Only None' w w' := by
  obtain ⟨x1, x2, x3, x4, x5, x6, x7⟩ := x
  unfold Wt.v
  simp only
  go_enter Try.func31, Try.ntmps31
  go_wp2_with fail
  go_ret
  exact ⟨rfl, (Only.refl _ _).alloc _⟩
theorem some_nil (f : Value) (w : World) : Calls Try.prog 25 #[.pointer none, f] w fun e w' => e = .returned (.slice none 0 0) ∧ w = w' := by
  go_enter Try.func25, Try.ntmps25
  go_wp2_with fail
  go_ret
  exact ⟨rfl, rfl⟩
theorem call26 (args : Array Value) (w : World) : (callFunc 26 args).run Try.prog w = .ok (.enter 26 args) w := by go_simp
theorem call27 (args : Array Value) (w : World) : (callFunc 27 args).run Try.prog w = .ok (.enter 27 args) w := by go_simp
theorem call30 (args : Array Value) (w : World) : (callFunc 30 args).run Try.prog w = .ok (.enter 30 args) w := by go_simp
theorem call31 (args : Array Value) (w : World) : (callFunc 31 args).run Try.prog w = .ok (.enter 31 args) w := by go_simp
/-- All -/
theorem alls_any {w : World} {B M : Nat} {c : Cl} (h : CallAt w B M c) : Calls Try.prog 24 #[.pointer (some ⟨B, 0, none⟩)] w fun e w' => ∃ v, e = .returned v ∧ WRow w' v c.ws ∧ (∀ g, v.ownBlock = some g → w.heap.size ≤ g) ∧ Only None' w w' := by
  have hs := some_any h 31 #[] call31 (fun _ => true) fun x _ w' _ => all_any x w'
  rw [List.filter_eq_self.2 fun _ _ => rfl] at hs
  have HS := Lib.hid hs
  clear hs h
  go_enter Try.func24, Try.ntmps24
  go_wp2_with fail
  refine HS.out.mono ?_
  rintro e w' ⟨v, rfl, h1, h2, h3⟩
  have H1 := Lib.hid (And.intro h1 (And.intro h2 h3))
  clear h1 h2 h3
  go_wp2_with fail
  go_ret
  exact ⟨_, rfl, H1.out⟩
theorem alls_nil (w : World) : Calls Try.prog 24 #[.pointer none] w fun e w' => e = .returned (.slice none 0 0) ∧ w = w' := by
  go_enter Try.func24, Try.ntmps24
  go_wp2_with fail
  refine (some_nil _ w).mono ?_
  rintro e w' ⟨rfl, rfl⟩
  go_wp2_with fail
  go_ret
  exact ⟨rfl, rfl⟩
end Go.Proofs.Ytehoiapadnbklaa
