/- The walk of butterylaw15.BallotOrder. -/
import Derived.Test.YtochcilkpjhmiaaL2
namespace Go.Proofs.Ytochcilkpjhmiaa
open Go.RowKit

theorem newer_below (a b c d : Int) (w : World) : Calls Try.prog 11 #[.int .i64 a, .int .i64 b, .int .i64 c, .int .i64 d] w fun e w' => e = .returned (.bool (newerB a b c d)) ∧ Below w.heap.size w w' := by
  have HN := Lib.hid (compareI_newer a b c d)
  go_enter Try.func11, Try.ntmps11
  go_wp2
  go_quiet ((go_at_call 30; refine Calls.quiet_of_same (compare_two _ _ a b c d _ ?_ ?_ ?_ ?_) <;> go_simp))
  go_wp2
  go_ret
  refine ⟨?_, below_drewN (below_two _ _ _) _⟩
  rw [← HN.out]; rfl

theorem newer_total (a0 a1 b0 b1 : Int) (h : newerB a0 a1 b0 b1 = false) : newerB b0 b1 a0 a1 = true := by
  simp only [newerB, decide_eq_false_iff_not, decide_eq_true_eq] at *; omega
theorem newer_anti (a0 a1 b0 b1 : Int) (h : newerB a0 a1 b0 b1 = true) (h' : newerB b0 b1 a0 a1 = true) : a0 = b0 ∧ a1 = b1 := by
  simp only [newerB, decide_eq_true_eq] at *; omega
theorem newer_anti' (a0 a1 b0 b1 : Int) (h' : newerB b0 b1 a0 a1 = false) : ¬ (a0 = b0 ∧ a1 = b1) := by
  simp only [newerB, decide_eq_false_iff_not] at *; omega
theorem newer_trans (a0 a1 b0 b1 c0 c1 : Int) (h : newerB a0 a1 b0 b1 = true) (h' : newerB b0 b1 c0 c1 = true) : newerB a0 a1 c0 c1 = true := by
  simp only [newerB, decide_eq_true_eq] at *; omega

/-- the three pairs, where the walk has boxed them -/
def Six (N : Nat) (W : World) (a0 a1 b0 b1 c0 c1 : Int) : Prop := N + 3 ≤ W.heap.size ∧
  W.cell? ⟨N, 0, none⟩ = some (.int .i64 a0) ∧ W.cell? ⟨N, 1, none⟩ = some (.int .i64 a1) ∧ W.cell? ⟨N + 1, 0, none⟩ = some (.int .i64 b0) ∧ W.cell? ⟨N + 1, 1, none⟩ = some (.int .i64 b1) ∧
  W.cell? ⟨N + 1 + 1, 0, none⟩ = some (.int .i64 c0) ∧ W.cell? ⟨N + 1 + 1, 1, none⟩ = some (.int .i64 c1)
theorem six_below {N : Nat} {W W' : World} {a0 a1 b0 b1 c0 c1 : Int} (h : Six N W a0 a1 b0 b1 c0 c1) (hb : Below W.heap.size W W') : Six N W' a0 a1 b0 b1 c0 c1 := by
  obtain ⟨h0, h1, h2, h3, h4, h5, h6⟩ := h
  have hs := hb.size
  refine ⟨by omega, ?_, ?_, ?_, ?_, ?_, ?_⟩
  all_goals (rw [hb.cell (by simp only; omega)]; assumption)
theorem six_start (w : World) (a0 a1 b0 b1 c0 c1 : Int) : Six w.heap.size (((w.alloc (.cells #[.int .i64 a0, .int .i64 a1] 39)).alloc (.cells #[.int .i64 b0, .int .i64 b1] 39)).alloc (.cells #[.int .i64 c0, .int .i64 c1] 39)) a0 a1 b0 b1 c0 c1 := by
  refine ⟨by simp, ?_, ?_, ?_, ?_, ?_, ?_⟩ <;> go_simp
theorem below_three (W : World) (o1 o2 o3 : Obj) : Below W.heap.size W (((W.alloc o1).alloc o2).alloc o3) := (below_two W o1 o2).alloc (by simp; omega) _

theorem under39 : Try.prog.underlying 39 = some (.array 2 3) := by kernel_rfl
theorem size3 (w : World) : (Go.sizeOf 3).run Try.prog w = .ok 1 w := by kernel_rfl
theorem part0 (x y : Value) (w : World) : (part 3 #[x, y] 0).run Try.prog w = .ok x w := by kernel_rfl
theorem part1 (x y : Value) (w : World) : (part 3 #[x, y] 1).run Try.prog w = .ok y w := by kernel_rfl
theorem eqArr (a0 a1 b0 b1 : Int) (w : World) : (Op.equalIn 10000 39 (.agg #[.int .i64 a0, .int .i64 a1]) (.agg #[.int .i64 b0, .int .i64 b1])).run Try.prog w = .ok (a0 == b0 && a1 == b1) w := by
  show (Op.equalIn (9999 + 1) 39 (.agg #[.int .i64 a0, .int .i64 a1]) (.agg #[.int .i64 b0, .int .i64 b1])).run Try.prog w = _
  have h1 := run_equalIn_int (P := Try.prog) (w := w) 9998 3 .i64 .i64 a0 b0 Try.underlying3
  have h2 := run_equalIn_int (P := Try.prog) (w := w) 9998 3 .i64 .i64 a1 b1 Try.underlying3
  have hu := run_underlying (w := w) under39
  rw [Op.equalIn]
  simp only [Sem.run_bind, hu]
  simp only [Result.andThen_ok, Sem.run_bind, size3]
  have hr : List.range' 0 2 1 = [0, 1] := rfl
  rw [Std.Legacy.Range.forIn_eq_forIn_range']
  simp only [Std.Legacy.Range.size, Nat.sub_zero, Nat.add_sub_cancel, Nat.div_one]
  rw [hr]
  simp only [List.forIn_cons, List.forIn_nil, Sem.run_bind, Nat.zero_mul, Nat.one_mul, part0, Result.andThen_ok]
  rw [show (9999 : Nat) = 9998 + 1 from rfl]
  simp only [h1, Result.andThen_ok]
  cases h : (a0 == b0)
  · simp
  · simp [part1, h2]
    cases h' : (a1 == b1) <;> simpa using h'
theorem u64_nonneg (x : Int) : 0 ≤ IntKind.u64.wrap x := by
  simp [IntKind.wrap, IntKind.signed, IntKind.bits]; omega
theorem rem_ex (x m : Int) (h0 : 0 < m) (h1 : m ≤ 100000) : ∃ E : Int, wrap64 ((IntKind.u64.wrap x).tmod m) = E ∧ 0 ≤ E ∧ E < m := by
  have h := u64_nonneg x
  rw [Int.tmod_eq_emod_of_nonneg h]
  have a := Int.emod_nonneg (IntKind.u64.wrap x) (show m ≠ 0 by omega)
  have b := Int.emod_lt_of_pos (IntKind.u64.wrap x) h0
  exact ⟨_, IntWalk.wrap64_in _ (by omega), a, b⟩

set_option maxHeartbeats 1000000 in
theorem order_walk (a0 a1 b0 b1 c0 c1 el id : Int) (w : World) :
    Calls Try.prog 8 #[.agg #[.int .i64 a0, .int .i64 a1], .agg #[.int .i64 b0, .int .i64 b1], .agg #[.int .i64 c0, .int .i64 c1], .int .i64 el, .int .i64 id] w fun e w' => e = .returned (.bool true) ∧ Below w.heap.size w w' := by
  obtain ⟨E, hE, hE0, hE1⟩ := rem_ex el 10000 (by omega) (by omega)
  obtain ⟨K, hK, hK0, hK1⟩ := rem_ex id 5 (by omega) (by omega)
  cases hab : newerB a0 a1 b0 b1 with
  | false =>
    have HAB := Lib.hid hab
    have HBA := Lib.hid (newer_total _ _ _ _ hab)
    clear hab
    go_enter Try.func8, Try.ntmps8
    go_wp2_with fail
    refine (works_any _).mono ?_
    rintro e w1 ⟨rfl, h1⟩
    have S1 := Lib.hid (six_below (six_start w a0 a1 b0 b1 c0 c1) h1)
    have B1 := Lib.hid ((below_three _ _ _ _).trans (h1.mono (below_three _ _ _ _).size))
    clear h1
    obtain ⟨_, q0, q1, q2, q3, q4, q5⟩ := S1.out
    go_wp2_with fail
    refine (newer_below a0 a1 b0 b1 _).mono ?_
    rintro e w2 ⟨rfl, h2⟩
    rw [HAB.out]
    clear q0 q1 q2 q3 q4 q5
    have S2 := Lib.hid (six_below S1.out h2)
    have B2 := Lib.hid (B1.out.trans (h2.mono B1.out.size))
    clear h2 S1 B1
    obtain ⟨_, q0, q1, q2, q3, q4, q5⟩ := S2.out
    go_wp2_with fail
    refine (newer_below b0 b1 a0 a1 _).mono ?_
    rintro e w3 ⟨rfl, h3⟩
    rw [HBA.out]
    clear q0 q1 q2 q3 q4 q5
    have S3 := Lib.hid (six_below S2.out h3)
    have B3 := Lib.hid (B2.out.trans (h3.mono B2.out.size))
    clear h3 S2 B2
    obtain ⟨_, q0, q1, q2, q3, q4, q5⟩ := S3.out
    go_wp2_with fail
    refine (patience_any E 1 _ hE0 (by omega) (by omega) (by omega)).mono ?_
    rintro e wx ⟨rfl, rfl⟩
    go_wp2_with fail
    refine (patience_any E (1 + K + 1) _ hE0 (by omega) (by omega) (by omega)).mono ?_
    rintro e wx ⟨rfl, rfl⟩
    go_wp2_with fail
    refine (patience_any E (1 + K) _ hE0 (by omega) (by omega) (by omega)).mono ?_
    rintro e wx ⟨rfl, rfl⟩
    go_wp2_with fail
    go_ret
    exact ⟨by simp; try omega, B3.out⟩
  | true =>
    cases hba : newerB b0 b1 a0 a1 with
    | false =>
      have HAB := Lib.hid hab
      have HBA := Lib.hid hba
      have hne := newer_anti' _ _ _ _ hba
      have hq : ∀ W, (Op.equalIn 10000 39 (.agg #[.int .i64 a0, .int .i64 a1]) (.agg #[.int .i64 b0, .int .i64 b1])).run Try.prog W = .ok false W := by
        intro W; rw [eqArr]; congr 1; rw [Bool.eq_false_iff]; intro e; apply hne; simpa using e
      clear hab hba hne
      cases hbc : newerB b0 b1 c0 c1 with
      | false =>
        have HBC := Lib.hid hbc
        clear hbc
        go_enter Try.func8, Try.ntmps8
        go_wp2_with fail
        refine (works_any _).mono ?_
        rintro e w1 ⟨rfl, h1⟩
        have S1 := Lib.hid (six_below (six_start w a0 a1 b0 b1 c0 c1) h1)
        have B1 := Lib.hid ((below_three _ _ _ _).trans (h1.mono (below_three _ _ _ _).size))
        clear h1
        obtain ⟨_, q0, q1, q2, q3, q4, q5⟩ := S1.out
        go_wp2_with fail
        refine (newer_below a0 a1 b0 b1 _).mono ?_
        rintro e w2 ⟨rfl, h2⟩
        rw [HAB.out]
        clear q0 q1 q2 q3 q4 q5
        have S2 := Lib.hid (six_below S1.out h2)
        have B2 := Lib.hid (B1.out.trans (h2.mono B1.out.size))
        clear h2 S1 B1
        obtain ⟨_, q0, q1, q2, q3, q4, q5⟩ := S2.out
        go_wp2_with fail
        refine (newer_below b0 b1 a0 a1 _).mono ?_
        rintro e w3 ⟨rfl, h3⟩
        rw [HBA.out]
        clear q0 q1 q2 q3 q4 q5
        have S3 := Lib.hid (six_below S2.out h3)
        have B3 := Lib.hid (B2.out.trans (h3.mono B2.out.size))
        clear h3 S2 B2
        obtain ⟨_, q0, q1, q2, q3, q4, q5⟩ := S3.out
        go_wp2_with fail
        refine (newer_below b0 b1 c0 c1 _).mono ?_
        rintro e w4 ⟨rfl, h4⟩
        rw [HBC.out]
        clear q0 q1 q2 q3 q4 q5
        have S4 := Lib.hid (six_below S3.out h4)
        have B4 := Lib.hid (B3.out.trans (h4.mono B3.out.size))
        clear h4 S3 B3
        obtain ⟨_, q0, q1, q2, q3, q4, q5⟩ := S4.out
        go_wp2_with fail
        refine (patience_any E 1 _ hE0 (by omega) (by omega) (by omega)).mono ?_
        rintro e wx ⟨rfl, rfl⟩
        go_wp2_with fail
        refine (patience_any E (1 + K + 1) _ hE0 (by omega) (by omega) (by omega)).mono ?_
        rintro e wx ⟨rfl, rfl⟩
        go_wp2_with fail
        refine (patience_any E (1 + K) _ hE0 (by omega) (by omega) (by omega)).mono ?_
        rintro e wx ⟨rfl, rfl⟩
        go_wp2_with fail
        go_ret
        exact ⟨by simp; try omega, B4.out⟩
      | true =>
        have HAC := Lib.hid (newer_trans _ _ _ _ _ _ HAB.out hbc)
        have HBC := Lib.hid hbc
        clear hbc
        go_enter Try.func8, Try.ntmps8
        go_wp2_with fail
        refine (works_any _).mono ?_
        rintro e w1 ⟨rfl, h1⟩
        have S1 := Lib.hid (six_below (six_start w a0 a1 b0 b1 c0 c1) h1)
        have B1 := Lib.hid ((below_three _ _ _ _).trans (h1.mono (below_three _ _ _ _).size))
        clear h1
        obtain ⟨_, q0, q1, q2, q3, q4, q5⟩ := S1.out
        go_wp2_with fail
        refine (newer_below a0 a1 b0 b1 _).mono ?_
        rintro e w2 ⟨rfl, h2⟩
        rw [HAB.out]
        clear q0 q1 q2 q3 q4 q5
        have S2 := Lib.hid (six_below S1.out h2)
        have B2 := Lib.hid (B1.out.trans (h2.mono B1.out.size))
        clear h2 S1 B1
        obtain ⟨_, q0, q1, q2, q3, q4, q5⟩ := S2.out
        go_wp2_with fail
        refine (newer_below b0 b1 a0 a1 _).mono ?_
        rintro e w3 ⟨rfl, h3⟩
        rw [HBA.out]
        clear q0 q1 q2 q3 q4 q5
        have S3 := Lib.hid (six_below S2.out h3)
        have B3 := Lib.hid (B2.out.trans (h3.mono B2.out.size))
        clear h3 S2 B2
        obtain ⟨_, q0, q1, q2, q3, q4, q5⟩ := S3.out
        go_wp2_with fail
        refine (newer_below b0 b1 c0 c1 _).mono ?_
        rintro e w4 ⟨rfl, h4⟩
        rw [HBC.out]
        clear q0 q1 q2 q3 q4 q5
        have S4 := Lib.hid (six_below S3.out h4)
        have B4 := Lib.hid (B3.out.trans (h4.mono B3.out.size))
        clear h4 S3 B3
        obtain ⟨_, q0, q1, q2, q3, q4, q5⟩ := S4.out
        go_wp2_with fail
        refine (newer_below a0 a1 c0 c1 _).mono ?_
        rintro e w5 ⟨rfl, h5⟩
        rw [HAC.out]
        clear q0 q1 q2 q3 q4 q5
        have S5 := Lib.hid (six_below S4.out h5)
        have B5 := Lib.hid (B4.out.trans (h5.mono B4.out.size))
        clear h5 S4 B4
        obtain ⟨_, q0, q1, q2, q3, q4, q5⟩ := S5.out
        go_wp2_with fail
        refine (patience_any E 1 _ hE0 (by omega) (by omega) (by omega)).mono ?_
        rintro e wx ⟨rfl, rfl⟩
        go_wp2_with fail
        refine (patience_any E (1 + K + 1) _ hE0 (by omega) (by omega) (by omega)).mono ?_
        rintro e wx ⟨rfl, rfl⟩
        go_wp2_with fail
        refine (patience_any E (1 + K) _ hE0 (by omega) (by omega) (by omega)).mono ?_
        rintro e wx ⟨rfl, rfl⟩
        go_wp2_with fail
        go_ret
        exact ⟨by simp; try omega, B5.out⟩
    | true =>
      have HAB := Lib.hid hab
      have HBA := Lib.hid hba
      obtain ⟨rfl, rfl⟩ := newer_anti _ _ _ _ hab hba
      have hq : ∀ W, (Op.equalIn 10000 39 (.agg #[.int .i64 a0, .int .i64 a1]) (.agg #[.int .i64 a0, .int .i64 a1])).run Try.prog W = .ok true W := by
        intro W; rw [eqArr]; simp
      clear hab hba
      cases hbc : newerB a0 a1 c0 c1 with
      | false =>
        have HBC := Lib.hid hbc
        clear hbc
        go_enter Try.func8, Try.ntmps8
        go_wp2_with fail
        refine (works_any _).mono ?_
        rintro e w1 ⟨rfl, h1⟩
        have S1 := Lib.hid (six_below (six_start w a0 a1 a0 a1 c0 c1) h1)
        have B1 := Lib.hid ((below_three _ _ _ _).trans (h1.mono (below_three _ _ _ _).size))
        clear h1
        obtain ⟨_, q0, q1, q2, q3, q4, q5⟩ := S1.out
        go_wp2_with fail
        refine (newer_below a0 a1 a0 a1 _).mono ?_
        rintro e w2 ⟨rfl, h2⟩
        rw [HAB.out]
        clear q0 q1 q2 q3 q4 q5
        have S2 := Lib.hid (six_below S1.out h2)
        have B2 := Lib.hid (B1.out.trans (h2.mono B1.out.size))
        clear h2 S1 B1
        obtain ⟨_, q0, q1, q2, q3, q4, q5⟩ := S2.out
        go_wp2_with fail
        refine (newer_below a0 a1 a0 a1 _).mono ?_
        rintro e w3 ⟨rfl, h3⟩
        rw [HBA.out]
        clear q0 q1 q2 q3 q4 q5
        have S3 := Lib.hid (six_below S2.out h3)
        have B3 := Lib.hid (B2.out.trans (h3.mono B2.out.size))
        clear h3 S2 B2
        obtain ⟨_, q0, q1, q2, q3, q4, q5⟩ := S3.out
        go_wp2_with fail
        refine (newer_below a0 a1 c0 c1 _).mono ?_
        rintro e w4 ⟨rfl, h4⟩
        rw [HBC.out]
        clear q0 q1 q2 q3 q4 q5
        have S4 := Lib.hid (six_below S3.out h4)
        have B4 := Lib.hid (B3.out.trans (h4.mono B3.out.size))
        clear h4 S3 B3
        obtain ⟨_, q0, q1, q2, q3, q4, q5⟩ := S4.out
        go_wp2_with fail
        refine (patience_any E 1 _ hE0 (by omega) (by omega) (by omega)).mono ?_
        rintro e wx ⟨rfl, rfl⟩
        go_wp2_with fail
        refine (patience_any E (1 + K + 1) _ hE0 (by omega) (by omega) (by omega)).mono ?_
        rintro e wx ⟨rfl, rfl⟩
        go_wp2_with fail
        refine (patience_any E (1 + K) _ hE0 (by omega) (by omega) (by omega)).mono ?_
        rintro e wx ⟨rfl, rfl⟩
        go_wp2_with fail
        go_ret
        exact ⟨by simp; try omega, B4.out⟩
      | true =>
        have HBC := Lib.hid hbc
        clear hbc
        go_enter Try.func8, Try.ntmps8
        go_wp2_with fail
        refine (works_any _).mono ?_
        rintro e w1 ⟨rfl, h1⟩
        have S1 := Lib.hid (six_below (six_start w a0 a1 a0 a1 c0 c1) h1)
        have B1 := Lib.hid ((below_three _ _ _ _).trans (h1.mono (below_three _ _ _ _).size))
        clear h1
        obtain ⟨_, q0, q1, q2, q3, q4, q5⟩ := S1.out
        go_wp2_with fail
        refine (newer_below a0 a1 a0 a1 _).mono ?_
        rintro e w2 ⟨rfl, h2⟩
        rw [HAB.out]
        clear q0 q1 q2 q3 q4 q5
        have S2 := Lib.hid (six_below S1.out h2)
        have B2 := Lib.hid (B1.out.trans (h2.mono B1.out.size))
        clear h2 S1 B1
        obtain ⟨_, q0, q1, q2, q3, q4, q5⟩ := S2.out
        go_wp2_with fail
        refine (newer_below a0 a1 a0 a1 _).mono ?_
        rintro e w3 ⟨rfl, h3⟩
        rw [HBA.out]
        clear q0 q1 q2 q3 q4 q5
        have S3 := Lib.hid (six_below S2.out h3)
        have B3 := Lib.hid (B2.out.trans (h3.mono B2.out.size))
        clear h3 S2 B2
        obtain ⟨_, q0, q1, q2, q3, q4, q5⟩ := S3.out
        go_wp2_with fail
        refine (newer_below a0 a1 c0 c1 _).mono ?_
        rintro e w4 ⟨rfl, h4⟩
        rw [HBC.out]
        clear q0 q1 q2 q3 q4 q5
        have S4 := Lib.hid (six_below S3.out h4)
        have B4 := Lib.hid (B3.out.trans (h4.mono B3.out.size))
        clear h4 S3 B3
        obtain ⟨_, q0, q1, q2, q3, q4, q5⟩ := S4.out
        go_wp2_with fail
        refine (newer_below a0 a1 c0 c1 _).mono ?_
        rintro e w5 ⟨rfl, h5⟩
        rw [HBC.out]
        clear q0 q1 q2 q3 q4 q5
        have S5 := Lib.hid (six_below S4.out h5)
        have B5 := Lib.hid (B4.out.trans (h5.mono B4.out.size))
        clear h5 S4 B4
        obtain ⟨_, q0, q1, q2, q3, q4, q5⟩ := S5.out
        go_wp2_with fail
        refine (patience_any E 1 _ hE0 (by omega) (by omega) (by omega)).mono ?_
        rintro e wx ⟨rfl, rfl⟩
        go_wp2_with fail
        refine (patience_any E (1 + K + 1) _ hE0 (by omega) (by omega) (by omega)).mono ?_
        rintro e wx ⟨rfl, rfl⟩
        go_wp2_with fail
        refine (patience_any E (1 + K) _ hE0 (by omega) (by omega) (by omega)).mono ?_
        rintro e wx ⟨rfl, rfl⟩
        go_wp2_with fail
        go_ret
        exact ⟨by simp; try omega, B5.out⟩

end Go.Proofs.Ytochcilkpjhmiaa
