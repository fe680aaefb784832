/- mail (37). -/
import Derived.Test.YtfmpidacklhmaaaA4
namespace Go.Proofs.Ytfmpidacklhmaaa
open Go.RowKit Go.Maps
set_option linter.unusedVariables false
set_option maxRecDepth 20000

section
variable {a : Act} {o : Oper} {x y : Operand}
theorem y_fld64 (w : World) {k d : Nat} {g : Nat} (ho : o.op = .fieldAddr 64 x k) (hx : a.eval x = .pointer (some ⟨g, 0, none⟩)) (hk : (k, d) ∈ [(0, 0), (1, 13), (2, 14), (3, 15), (4, 16), (5, 17), (6, 18)]) : (execOp a.eval o).run Try.prog w = .ok (.value (.pointer (some ⟨g, d, none⟩))) w := by
  simp only [List.mem_cons, List.not_mem_nil, or_false, Prod.mk.injEq] at hk
  rcases hk with ⟨rfl, rfl⟩ | ⟨rfl, rfl⟩ | ⟨rfl, rfl⟩ | ⟨rfl, rfl⟩ | ⟨rfl, rfl⟩ | ⟨rfl, rfl⟩ | ⟨rfl, rfl⟩
  all_goals
    unfold execOp
    simp only [ho, hx]
    go_simp
theorem y_load3 {w : World} {g off : Nat} {z : Int} (ho : o.op = .load 3 x) (hx : a.eval x = .pointer (some ⟨g, off, none⟩)) (hc : w.cell? ⟨g, off, none⟩ = some (.int .i64 z)) : (execOp a.eval o).run Try.prog w = .ok (.value (.int .i64 z)) w := by
  unfold execOp
  simp only [ho, hx]
  go_simp
theorem y_build51 (w : World) {rc : Int} {m : Mg} {x y z : Operand} (ho : o.op = .build 51 #[(0, x), (1, y), (2, z)]) (hx : a.eval x = .int .i64 101) (hy : a.eval y = .int .i64 rc) (hz : a.eval z = m.v) : (execOp a.eval o).run Try.prog w = .ok (.value (mailV rc m)) w := by
  have hb : Try.prog.built 51 (#[(0, x), (1, y), (2, z)].map fun (i, x) => (i, a.eval x)).toList = some (mailR rc m).toArray := by
    simp only [List.map_toArray, List.map_cons, List.map_nil, hx, hy, hz]
    kernel_rfl
  unfold execOp
  simp only [ho, Sem.run_bind, run_build w 51 _ _ hb, Result.andThen_ok, Sem.run_pure]
  rfl
end
theorem mail_any {w : World} {C : Nat} (hc : w.cell? ⟨C, 13, none⟩ = some (.int .i64 101)) (hC : C < w.heap.size) (rc : Int) (m : Mg) : Calls Try.prog 37 #[.pointer (some ⟨C, 0, none⟩), .int .i64 rc, m.v] w fun e w' => ∃ v R, e = .returned v ∧ MailAt w' v R rc m ∧ w.heap.size ≤ R ∧ Only None' w w' := by
  have HC := Lib.hid (And.intro hc hC)
  unfold Mg.v
  clear hc hC
  go_enter Try.func37, Try.ntmps37
  go_upto_region 1 with fail
  generalize hX : w.heap.size = B
  generalize hw1 : w.alloc _ = w1
  have hB : w1.heap[B]? = some (.cells m.row.toArray 44 (0, 0)) := by rw [← hw1, ← hX]; exact heap_alloc_new w _
  have o1 : Only None' w w1 := by rw [← hw1]; exact (Only.refl None' w).alloc _
  have HB : Hid (∀ w', Only None' w1 w' → w'.heap[B]? = some (.cells m.row.toArray 44 (0, 0))) := Lib.hid fun w' o => (o.block B (Array.getElem?_eq_some_iff.1 hB).1 fun e => e).trans hB
  have HA : Hid (∀ w', Only None' w1 w' → w'.cell? ⟨C, 13, none⟩ = some (.int .i64 101)) := Lib.hid fun w' o => ((o1.trans o).cell HC.out.2 (fun e => e) 13).trans HC.out.1
  have O1 := Lib.hid (And.intro o1 hX)
  clear hB o1 hw1 hX
  refine r_begin (S := None') (by kernel_rfl) ?_
  have HS : Hid (Only None' w1 w1) := Lib.hid (Only.refl _ _)
  refine r_take 0 (.pointer (some ⟨C, 0, none⟩)) rfl (by kernel_rfl) (fun _ _ _ h => h) HS.out (YR.pure (by rfl) fun w hw => y_move w rfl rfl) ?_
  simp only [Act.put, List.setIfInBounds_toArray, List.set_cons_zero, List.set_cons_succ]
  refine r_take 1 (.pointer (some ⟨C, 0, none⟩)) rfl (by kernel_rfl) (fun _ _ _ h => h) HS.out (YR.pure (by rfl) fun w hw => y_nil w rfl rfl) ?_
  simp only [Act.put, List.setIfInBounds_toArray, List.set_cons_zero, List.set_cons_succ]
  refine r_take 2 (.pointer (some ⟨C, 13, none⟩)) rfl (by kernel_rfl) (fun _ _ _ h => h) HS.out (YR.pure (by rfl) fun w hw => y_fld64 w rfl rfl (by decide)) ?_
  simp only [Act.put, List.setIfInBounds_toArray, List.set_cons_zero, List.set_cons_succ]
  refine r_take 3 (.int .i64 101) rfl (by kernel_rfl) (fun _ _ _ h => h) HS.out (YR.pure (by rfl) fun w hw => y_load3 rfl rfl (HA.out w hw)) ?_
  simp only [Act.put, List.setIfInBounds_toArray, List.set_cons_zero, List.set_cons_succ]
  refine r_take 4 (.int .i64 rc) rfl (by kernel_rfl) (fun _ _ _ h => h) HS.out (YR.pure (by rfl) fun w hw => y_move w rfl rfl) ?_
  simp only [Act.put, List.setIfInBounds_toArray, List.set_cons_zero, List.set_cons_succ]
  refine r_take 5 m.v rfl (by kernel_rfl) (fun _ _ _ h => h) HS.out (YR.pure (by rfl) fun w hw => y_load44 rfl rfl (HB.out w hw)) ?_
  simp only [Act.put, List.setIfInBounds_toArray, List.set_cons_zero, List.set_cons_succ]
  refine r_take 6 (mailV rc m) rfl (by kernel_rfl) (fun _ _ _ h => h) HS.out (YR.pure (by rfl) fun w hw => y_build51 w rfl rfl rfl rfl) ?_
  simp only [Act.put, List.setIfInBounds_toArray, List.set_cons_zero, List.set_cons_succ]
  refine r_one 7 rfl (by kernel_rfl) (by rfl) fun w2 o2 => ?_
  refine wp_mail rc m rfl rfl fun R w3 hm hR o3 => ⟨o2.trans o3, ?_⟩
  have HM : Hid (MailAt w3 (.slice (some ⟨R, 0, none⟩) 1 1) R rc m ∧ w.heap.size ≤ R ∧ Only None' w w3) := Lib.hid ⟨hm, by have h1 := O1.out.1.size; have h2 := o2.size; omega, (O1.out.1.trans o2).trans o3⟩
  have HS3 : Hid (Only None' w1 w3) := Lib.hid (o2.trans o3)
  simp only [Act.put, List.setIfInBounds_toArray, List.set_cons_zero, List.set_cons_succ]
  refine r_take 8 (.slice (some ⟨R, 0, none⟩) 1 1) rfl (by kernel_rfl) (fun _ _ _ h => h) HS3.out (YR.pure (by rfl) fun w hw => y_assign w rfl rfl) ?_
  simp only [Act.put, List.setIfInBounds_toArray, List.set_cons_zero, List.set_cons_succ]
  refine r_done (by kernel_rfl) fun wz oz => ?_
  have HZ : Hid (MailAt wz (.slice (some ⟨R, 0, none⟩) 1 1) R rc m ∧ w.heap.size ≤ R ∧ Only None' w wz) := Lib.hid ⟨HM.out.1.only oz fun e => e, HM.out.2.1, HM.out.2.2.trans oz⟩
  clear HM HS HS3 oz hm hR o3 o2
  go_wp2_with fail
  go_ret
  exact ⟨_, R, rfl, HZ.out⟩
end Go.Proofs.Ytfmpidacklhmaaa
