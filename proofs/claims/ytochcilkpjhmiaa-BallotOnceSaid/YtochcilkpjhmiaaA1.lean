/- Contracts of the functions that butterylaw15.BallotGrants calls, and its walk. -/
import Derived.Test.YtochcilkpjhmiaaProg
import Derived.WalkKit
import Derived.Lib.Hide
import Derived.BigQuiet
import Derived.Deep.QuietTactic
import Derived.WalkSpells
import Derived.WalkLawsBesides
namespace Go.Proofs.Ytochcilkpjhmiaa
open Go.RowKit
/-- three ways -/
def cmpI (x y : Int) : Int := if x < y then -1 else if y < x then 1 else 0

theorem cmp_any (x y : Int) (w : World) : Calls Try.prog 44 #[.int .i64 x, .int .i64 y] w fun e w' => e = .returned (.int .i64 (cmpI x y)) ∧ w = w' := by
  rcases Int.lt_trichotomy x y with h | h | h
  · go_enter Try.func44, Try.ntmps44
    go_wp2
    go_ret
    exact ⟨by simp [cmpI, h], rfl⟩
  · subst h
    go_enter Try.func44, Try.ntmps44
    go_wp2
    go_ret
    exact ⟨by simp [cmpI], rfl⟩
  · go_enter Try.func44, Try.ntmps44
    go_wp2
    go_ret
    exact ⟨by simp [cmpI, h]; omega, rfl⟩

def newerB (a b c d : Int) : Bool := decide (c < a ∨ (a = c ∧ d ≤ b))

theorem refNewer_any (a b c d : Int) (w : World) : Calls Try.prog 12 #[.int .i64 a, .int .i64 b, .int .i64 c, .int .i64 d] w fun e w' => e = .returned (.bool (newerB a b c d)) ∧ w = w' := by
  by_cases h : a = c
  · subst h
    go_enter Try.func12, Try.ntmps12
    go_wp2
    go_ret
    exact ⟨by simp [newerB], rfl⟩
  · have h1 : (a == c) = false := by simpa using h
    have h2 : (a != c) = true := by simpa using h
    go_enter Try.func12, Try.ntmps12
    go_wp2
    go_ret
    exact ⟨by simp [newerB, h], rfl⟩

def compareI (x0 x1 y0 y1 : Int) : Int := if cmpI x0 y0 = 0 then cmpI x1 y1 else cmpI x0 y0

theorem compareI_newer (x0 x1 y0 y1 : Int) : decide (compareI x0 x1 y0 y1 ≥ 0) = newerB x0 x1 y0 y1 := by
  unfold compareI cmpI newerB
  rw [decide_eq_decide]
  rcases Int.lt_trichotomy x0 y0 with h | h | h
  · simp only [h, if_true]; simp; omega
  · subst h
    rcases Int.lt_trichotomy x1 y1 with h | h | h
    · simp [h]
    · subst h; simp
    · have : ¬ x1 < y1 := by omega
      simp [h, this]; omega
  · have : ¬ x0 < y0 := by omega
    simp [h, this]

theorem compare_two (b1 b2 : Nat) (x0 x1 y0 y1 : Int) (w : World)
   (h10 : w.cell? ⟨b1, 0, none⟩ = some (.int .i64 x0)) (h11 : w.cell? ⟨b1, 1, none⟩ = some (.int .i64 x1))
   (h20 : w.cell? ⟨b2, 0, none⟩ = some (.int .i64 y0)) (h21 : w.cell? ⟨b2, 1, none⟩ = some (.int .i64 y1)) :
   Calls Try.prog 30 #[.slice (some ⟨b1, 0, none⟩) 2 2, .slice (some ⟨b2, 0, none⟩) 2 2] w fun e w' => e = .returned (.int .i64 (compareI x0 x1 y0 y1)) ∧ w' = w := by
  go_enter Try.func30, Try.ntmps30
  go_wp2
  go_loop [11] (fun i => ∃ k : Nat, k ≤ 2 ∧ i = .int .i64 k ∧ (1 ≤ k → cmpI x0 y0 = 0) ∧ (2 ≤ k → cmpI x1 y1 = 0)) (fun i => 2 - (intOf i).toNat)
  case atStart => exact ⟨0, by omega, rfl, by omega, by omega⟩
  case round =>
    obtain ⟨k, hk, rfl, e0, e1⟩ := hrel
    have hk3 : k = 0 ∨ k = 1 ∨ k = 2 := by omega
    rcases hk3 with rfl | rfl | rfl
    · by_cases hc : cmpI x0 y0 = 0
      · have hc' : (cmpI x0 y0 != 0) = false := by simp [hc]
        have HX := Lib.hid hc
        clear hc e0 e1
        go_wp2_with (go_at_call 44; refine (cmp_any _ _ _).mono ?_; rintro e w' ⟨rfl, rfl⟩)
        go_round
        case rel => exact ⟨1, by omega, rfl, fun _ => HX.out, by omega⟩
        case measure => simp [intOf]
      · have hc' : (cmpI x0 y0 != 0) = true := by simp [hc]
        have hfin : cmpI x0 y0 = compareI x0 x1 y0 y1 := by simp [compareI, hc]
        have HF := Lib.hid hfin
        clear hfin hc e0 e1
        go_wp2_with (go_at_call 44; refine (cmp_any _ _ _).mono ?_; rintro e w' ⟨rfl, rfl⟩)
        go_ret
        exact ⟨by rw [← HF.out]; rfl, rfl⟩
    · have E0 := Lib.hid (e0 (by omega))
      by_cases hc : cmpI x1 y1 = 0
      · have hc' : (cmpI x1 y1 != 0) = false := by simp [hc]
        have HX := Lib.hid hc
        clear hc e0 e1
        go_wp2_with (go_at_call 44; refine (cmp_any _ _ _).mono ?_; rintro e w' ⟨rfl, rfl⟩)
        go_round
        case rel => exact ⟨2, by omega, rfl, fun _ => E0.out, fun _ => HX.out⟩
        case measure => simp [intOf]
      · have hc' : (cmpI x1 y1 != 0) = true := by simp [hc]
        have hfin : cmpI x1 y1 = compareI x0 x1 y0 y1 := by simp [compareI, E0.out]
        have HF := Lib.hid hfin
        clear hfin hc e0 e1
        go_wp2_with (go_at_call 44; refine (cmp_any _ _ _).mono ?_; rintro e w' ⟨rfl, rfl⟩)
        go_ret
        exact ⟨by rw [← HF.out]; rfl, rfl⟩
    · have hfin : (0:Int) = compareI x0 x1 y0 y1 := by
        have h0 := e0 (by omega); have h1 := e1 (by omega)
        simp [compareI, h0, h1]
      have HF := Lib.hid hfin
      clear hfin e0 e1
      go_wp2
      go_ret
      exact ⟨by rw [← HF.out]; rfl, rfl⟩

theorem newer_any (a b c d : Int) (w : World) : Calls Try.prog 11 #[.int .i64 a, .int .i64 b, .int .i64 c, .int .i64 d] w fun e w' => e = .returned (.bool (newerB a b c d)) ∧ Grown w w' := by
  have HN := Lib.hid (compareI_newer a b c d)
  go_enter Try.func11, Try.ntmps11
  go_wp2
  go_quiet ((go_at_call 30; refine Calls.quiet_of_same (compare_two _ _ a b c d _ ?_ ?_ ?_ ?_) <;> go_simp))
  go_wp2
  go_ret
  refine ⟨?_, ?_⟩
  · rw [← HN.out]; rfl
  · exact Grown.alloc (Grown.alloc (Grown.refl w) _ _) _ _

def grantsB (t v ct c : Int) (n : Bool) : Bool := (decide (t < ct) || (ct == t) && (v == 0 || v == c)) && decide (0 < c) && n

theorem grants_any (t v ct c : Int) (n : Bool) (w : World) : Calls Try.prog 13 #[.int .i64 t, .int .i64 v, .int .i64 ct, .int .i64 c, .bool n] w fun e w' => e = .returned (.bool (grantsB t v ct c n)) ∧ w = w' := by
  cases h2 : (ct == t) <;> cases h3 : (v == 0) <;> cases h4 : (v == c) <;> cases n <;> by_cases h1 : t < ct <;> by_cases h5 : 0 < c
  all_goals
    go_enter Try.func13, Try.ntmps13
    go_wp2
    go_ret
    exact ⟨by simp [grantsB, h1, h2, h3, h4, h5], rfl⟩

theorem refGrants_any (t v ct c : Int) (n : Bool) (w : World) : Calls Try.prog 14 #[.int .i64 t, .int .i64 v, .int .i64 ct, .int .i64 c, .bool n] w fun e w' => e = .returned (.bool (grantsB t v ct c n)) ∧ w = w' := by
  have hb : (ct == t) = decide (¬ ct < t ∧ ¬ t < ct) := by rw [Bool.eq_iff_iff]; simp; omega
  have HB := Lib.hid hb
  clear hb
  by_cases h0 : ct < t
  · have hfin : grantsB t v ct c n = false := by
      have h1 : ¬ t < ct := by omega
      unfold grantsB; rw [HB.out]; simp [h0, h1]
    have HF := Lib.hid hfin
    clear hfin
    cases n
    all_goals
      go_enter Try.func14, Try.ntmps14
      go_wp2
      go_ret
      exact ⟨by rw [HF.out]; rfl, rfl⟩
  · cases h3 : (v == 0) <;> cases h4 : (v == c) <;> cases n <;> by_cases h1 : t < ct <;> by_cases h5 : 0 < c
    all_goals
      go_enter Try.func14, Try.ntmps14
      go_wp2
      go_ret
      exact ⟨by unfold grantsB; rw [HB.out]; simp [h1, h0, h3, h4, h5], rfl⟩

theorem walk (a0 : Int) (a1 : Int) (a2 : Int) (a3 : Int) (a4 : Int) (a5 : Int) (a6 : Bool) (w : World) :
    Calls Try.prog 3 #[.int .i64 a0, .int .i64 a1, .int .i64 a2, .int .i64 a3, .int .i64 a4, .int .i64 a5, .bool a6] w fun e w' => e = .returned (.bool true) ∧ Grown w w' := by
  go_enter Try.func3, Try.ntmps3
  go_wp2_with (first
    | (go_at_call 11; refine (newer_any _ _ _ _ _).mono ?_; rintro e w1 ⟨rfl, hg⟩)
    | (go_at_call 12; refine (refNewer_any _ _ _ _ _).mono ?_; rintro e w2 ⟨rfl, rfl⟩)
    | (go_at_call 13; refine (grants_any _ _ _ _ _ _).mono ?_; rintro e w2 ⟨rfl, rfl⟩)
    | (go_at_call 14; refine (refGrants_any _ _ _ _ _ _).mono ?_; rintro e w2 ⟨rfl, rfl⟩))
  go_ret
  exact ⟨by simp, hg⟩

end Go.Proofs.Ytochcilkpjhmiaa
