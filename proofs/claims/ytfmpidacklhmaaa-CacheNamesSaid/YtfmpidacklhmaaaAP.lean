/- Hear (8). (Printed by tp.py.) -/
import Derived.Test.YtfmpidacklhmaaaAO
namespace Go.Proofs.Ytfmpidacklhmaaa
open Go.RowKit Go.Maps
set_option linter.unusedVariables false
set_option linter.unusedSimpArgs false
set_option maxRecDepth 20000

section
variable {a : Act} {o : Oper} {x y z : Operand}
theorem y_index68 (w : World) {k : Int} {v : Value} (hv : ∀ w, (Instr.index 68 (.agg hearsR.toArray) (.int .u8 k)).run Try.prog w = .ok v w) (ho : o.op = .index 68 x y) (hx : a.eval x = .agg hearsR.toArray) (hy : a.eval y = .int .u8 k) : (execOp a.eval o).run Try.prog w = .ok (.value v) w := by
  unfold execOp
  simp only [ho, hx, hy, Sem.run_bind, hv, Result.andThen_ok, Sem.run_pure]
theorem y_enterT {n : Nat} {f : Nat} {args : List Operand} {ts : Array TypeId} (vs : List Value) (ho : o.op = .call { callee := .value (.tmp f), args := args.toArray, argTypes := ts }) (hf : a.eval (.tmp f) = .func (.func n) #[] #[]) (hv : args.map a.eval = vs) (hc : ∀ w, (callFunc n vs.toArray).run Try.prog w = .ok (.enter n vs.toArray) w) (w : World) : (execOp a.eval o).run Try.prog w = .ok (.enter n vs.toArray) w := by
  unfold execOp
  simp only [ho]
  have := hc w
  have hv' : args.toArray.map a.eval = vs.toArray := by rw [List.map_toArray, hv]
  have hf' : a.tmps[f]?.getD undef = .func (.func n) #[] #[] := by simpa [Act.eval] using hf
  go_simp
end
theorem call24_ (args : Array Value) (w : World) : (callFunc 24 args).run Try.prog w = .ok (.enter 24 args) w := by go_simp
theorem call25_ (args : Array Value) (w : World) : (callFunc 25 args).run Try.prog w = .ok (.enter 25 args) w := by go_simp
theorem call26_ (args : Array Value) (w : World) : (callFunc 26 args).run Try.prog w = .ok (.enter 26 args) w := by go_simp
theorem call27_ (args : Array Value) (w : World) : (callFunc 27 args).run Try.prog w = .ok (.enter 27 args) w := by go_simp
theorem load44_row {a : Act} {o : Oper} {x : Operand} {w : World} {B : Nat} {m : Mg} (ho : o.op = .load 44 x) (hx : a.eval x = .pointer (some ⟨B, 0, none⟩)) (hg : w.heap[B]? = some (.cells m.row.toArray 44 (0, 0))) : (execOp a.eval o).run Try.prog w = .ok (.value m.v) w := y_load44 ho hx hg
theorem index_10 (w : World) : (Instr.index 68 (.agg hearsR.toArray) (.int .u8 10)).run Try.prog w = .ok (.func (.func 24) #[] #[]) w := by kernel_rfl
theorem eqf_10 (w : World) : (binOp .eql 67 (.func (.func 24) #[] #[]) .nilFunc).run Try.prog w = .ok (.bool false) w := by kernel_rfl
theorem hear_10 {w : World} {b : Bk} {s : Cs} (h : CacheAt w b s) (from_ : Int) (m : Mg) (hk : m.kind = 10) (G : Value → World → Prop) (hG : ∀ v w1 w2, G v w1 → Only None' w1 w2 → G v w2) (hc : ∀ w', Only None' w w' → Calls Try.prog 24 #[.pointer (some ⟨b.C, 0, none⟩), .int .i64 from_, m.v] w' fun e w' => ∃ v, e = .returned v ∧ G v w') :
    Calls Try.prog 8 #[.pointer (some ⟨b.C, 0, none⟩), .int .i64 from_, m.v] w fun e w' => ∃ v, e = .returned v ∧ G v w' := by
  have HCC := Lib.hid hc
  have HK := Lib.hid hk
  have HG := Lib.hid hG
  unfold Mg.v
  clear hc hk h hG
  go_enter Try.func8, Try.ntmps8
  go_upto_region 1 with fail
  generalize hX : w.heap.size = X5
  generalize hw1 : w.alloc _ = w1
  have HB : Hid (Only None' w w1 ∧ w1.heap[X5]? = some (.cells m.row.toArray 44 (0, 0))) := Lib.hid ⟨by rw [← hw1]; exact (Only.refl None' w).alloc _, by rw [← hw1, ← hX]; exact heap_alloc_new w _⟩
  clear hX hw1
  have k0 : w1.cell? ⟨X5, 0, none⟩ = some (.int .u8 10) := by rw [(cells_of_row HB.out.2).is 0 _ rfl, HK.out]
  go_upto_region 3 with fail
  have HM : Hid (∀ w', Only None' w1 w' → w'.cell? ⟨X5, 0, none⟩ = some (.int .u8 10)) := Lib.hid fun w' o => (o.cell (cells_of_row HB.out.2).lt (fun e => e) 0).trans k0
  clear k0
  refine r_begin (S := None') (by kernel_rfl) ?_
  have HS := Lib.hid (Only.refl (None') w1)
  refine r_take 0 (.agg hearsR.toArray) rfl (by kernel_rfl) (fun _ _ _ h => h) HS.out (YR.call (by rfl) (fun w => y_enter [] rfl (by rfl) (call19_ _) w) fun w hw => hears_any w) ?_
  simp only [Act.put, List.setIfInBounds_toArray, List.set_cons_zero, List.set_cons_succ]
  refine r_take 1 (.pointer (some ⟨X5, 0, none⟩)) rfl (by kernel_rfl) (fun _ _ _ h => h) HS.out (YR.pure (by rfl) fun w hw => y_f44_0 w rfl rfl) ?_
  simp only [Act.put, List.setIfInBounds_toArray, List.set_cons_zero, List.set_cons_succ]
  refine r_take 2 (.int .u8 10) rfl (by kernel_rfl) (fun _ _ _ h => h) HS.out (YR.pure (by rfl) fun w hw => y_load5 rfl rfl (HM.out w hw)) ?_
  simp only [Act.put, List.setIfInBounds_toArray, List.set_cons_zero, List.set_cons_succ]
  refine r_take 3 (.func (.func 24) #[] #[]) rfl (by kernel_rfl) (fun _ _ _ h => h) HS.out (YR.pure (by rfl) fun w hw => y_index68 w index_10 rfl rfl rfl) ?_
  simp only [Act.put, List.setIfInBounds_toArray, List.set_cons_zero, List.set_cons_succ]
  refine r_take 4 (.func (.func 24) #[] #[]) rfl (by kernel_rfl) (fun _ _ _ h => h) HS.out (YR.pure (by rfl) fun w hw => y_assign w rfl rfl) ?_
  simp only [Act.put, List.setIfInBounds_toArray, List.set_cons_zero, List.set_cons_succ]
  refine r_done (by kernel_rfl) fun wz oz => ?_
  have HZ : Hid (Only None' w wz ∧ wz.heap[X5]? = some (.cells m.row.toArray 44 (0, 0))) := Lib.hid ⟨HB.out.1.trans (HS.out.trans oz), ((HS.out.trans oz).block X5 (Array.getElem?_eq_some_iff.1 HB.out.2).1 fun e => e).trans HB.out.2⟩
  clear HB HS oz HM
  generalize wz = w2 at HZ ⊢
  have hqf := eqf_10
  go_upto_region 6 with fail
  clear hqf
  refine p_begin ?_
  refine p_take 0 (.func (.func 24) #[] #[]) rfl (YR.pure (by rfl) fun w hw => y_move w rfl rfl) ?_
  simp only [Act.put, List.setIfInBounds_toArray, List.set_cons_zero, List.set_cons_succ]
  refine p_take 1 (.pointer (some ⟨b.C, 0, none⟩)) rfl (YR.pure (by rfl) fun w hw => y_move w rfl rfl) ?_
  simp only [Act.put, List.setIfInBounds_toArray, List.set_cons_zero, List.set_cons_succ]
  refine p_take 2 (.int .i64 from_) rfl (YR.pure (by rfl) fun w hw => y_move w rfl rfl) ?_
  simp only [Act.put, List.setIfInBounds_toArray, List.set_cons_zero, List.set_cons_succ]
  refine p_take 3 m.v rfl (YR.pure (by rfl) fun w hw => y_load44 rfl rfl ((hw.block X5 (Array.getElem?_eq_some_iff.1 HZ.out.2).1 fun e => e).trans HZ.out.2)) ?_
  simp only [Act.put, List.setIfInBounds_toArray, List.set_cons_zero, List.set_cons_succ]
  refine p_one 4 rfl (by rfl) fun wi oi => ?_
  refine wp_enter (y_enterT [.pointer (some ⟨b.C, 0, none⟩), .int .i64 from_, m.v] rfl rfl (by rfl) (call24_ _) wi) ((HCC.out wi (HZ.out.1.trans oi)).mono ?_)
  rintro e w7 ⟨v, rfl, hg⟩
  refine ⟨_, rfl, ?_⟩
  have HE := Lib.hid hg
  clear hg oi
  simp only [Act.put, List.setIfInBounds_toArray, List.set_cons_zero, List.set_cons_succ]
  refine p_take 5 v rfl (YR.pure (by rfl) fun w hw => y_assign w rfl rfl) ?_
  simp only [Act.put, List.setIfInBounds_toArray, List.set_cons_zero, List.set_cons_succ]
  refine p_done fun wz oz => ?_
  have HE2 := Lib.hid (HG.out _ _ _ HE.out oz)
  clear HE oz
  go_wp2_with fail
  go_ret
  exact ⟨v, rfl, HE2.out⟩
theorem index_9 (w : World) : (Instr.index 68 (.agg hearsR.toArray) (.int .u8 9)).run Try.prog w = .ok (.func (.func 25) #[] #[]) w := by kernel_rfl
theorem eqf_9 (w : World) : (binOp .eql 67 (.func (.func 25) #[] #[]) .nilFunc).run Try.prog w = .ok (.bool false) w := by kernel_rfl
theorem hear_9 {w : World} {b : Bk} {s : Cs} (h : CacheAt w b s) (from_ : Int) (m : Mg) (hk : m.kind = 9) (G : Value → World → Prop) (hG : ∀ v w1 w2, G v w1 → Only None' w1 w2 → G v w2) (hc : ∀ w', Only None' w w' → Calls Try.prog 25 #[.pointer (some ⟨b.C, 0, none⟩), .int .i64 from_, m.v] w' fun e w' => ∃ v, e = .returned v ∧ G v w') :
    Calls Try.prog 8 #[.pointer (some ⟨b.C, 0, none⟩), .int .i64 from_, m.v] w fun e w' => ∃ v, e = .returned v ∧ G v w' := by
  have HCC := Lib.hid hc
  have HK := Lib.hid hk
  have HG := Lib.hid hG
  unfold Mg.v
  clear hc hk h hG
  go_enter Try.func8, Try.ntmps8
  go_upto_region 1 with fail
  generalize hX : w.heap.size = X5
  generalize hw1 : w.alloc _ = w1
  have HB : Hid (Only None' w w1 ∧ w1.heap[X5]? = some (.cells m.row.toArray 44 (0, 0))) := Lib.hid ⟨by rw [← hw1]; exact (Only.refl None' w).alloc _, by rw [← hw1, ← hX]; exact heap_alloc_new w _⟩
  clear hX hw1
  have k0 : w1.cell? ⟨X5, 0, none⟩ = some (.int .u8 9) := by rw [(cells_of_row HB.out.2).is 0 _ rfl, HK.out]
  go_upto_region 3 with fail
  have HM : Hid (∀ w', Only None' w1 w' → w'.cell? ⟨X5, 0, none⟩ = some (.int .u8 9)) := Lib.hid fun w' o => (o.cell (cells_of_row HB.out.2).lt (fun e => e) 0).trans k0
  clear k0
  refine r_begin (S := None') (by kernel_rfl) ?_
  have HS := Lib.hid (Only.refl (None') w1)
  refine r_take 0 (.agg hearsR.toArray) rfl (by kernel_rfl) (fun _ _ _ h => h) HS.out (YR.call (by rfl) (fun w => y_enter [] rfl (by rfl) (call19_ _) w) fun w hw => hears_any w) ?_
  simp only [Act.put, List.setIfInBounds_toArray, List.set_cons_zero, List.set_cons_succ]
  refine r_take 1 (.pointer (some ⟨X5, 0, none⟩)) rfl (by kernel_rfl) (fun _ _ _ h => h) HS.out (YR.pure (by rfl) fun w hw => y_f44_0 w rfl rfl) ?_
  simp only [Act.put, List.setIfInBounds_toArray, List.set_cons_zero, List.set_cons_succ]
  refine r_take 2 (.int .u8 9) rfl (by kernel_rfl) (fun _ _ _ h => h) HS.out (YR.pure (by rfl) fun w hw => y_load5 rfl rfl (HM.out w hw)) ?_
  simp only [Act.put, List.setIfInBounds_toArray, List.set_cons_zero, List.set_cons_succ]
  refine r_take 3 (.func (.func 25) #[] #[]) rfl (by kernel_rfl) (fun _ _ _ h => h) HS.out (YR.pure (by rfl) fun w hw => y_index68 w index_9 rfl rfl rfl) ?_
  simp only [Act.put, List.setIfInBounds_toArray, List.set_cons_zero, List.set_cons_succ]
  refine r_take 4 (.func (.func 25) #[] #[]) rfl (by kernel_rfl) (fun _ _ _ h => h) HS.out (YR.pure (by rfl) fun w hw => y_assign w rfl rfl) ?_
  simp only [Act.put, List.setIfInBounds_toArray, List.set_cons_zero, List.set_cons_succ]
  refine r_done (by kernel_rfl) fun wz oz => ?_
  have HZ : Hid (Only None' w wz ∧ wz.heap[X5]? = some (.cells m.row.toArray 44 (0, 0))) := Lib.hid ⟨HB.out.1.trans (HS.out.trans oz), ((HS.out.trans oz).block X5 (Array.getElem?_eq_some_iff.1 HB.out.2).1 fun e => e).trans HB.out.2⟩
  clear HB HS oz HM
  generalize wz = w2 at HZ ⊢
  have hqf := eqf_9
  go_upto_region 6 with fail
  clear hqf
  refine p_begin ?_
  refine p_take 0 (.func (.func 25) #[] #[]) rfl (YR.pure (by rfl) fun w hw => y_move w rfl rfl) ?_
  simp only [Act.put, List.setIfInBounds_toArray, List.set_cons_zero, List.set_cons_succ]
  refine p_take 1 (.pointer (some ⟨b.C, 0, none⟩)) rfl (YR.pure (by rfl) fun w hw => y_move w rfl rfl) ?_
  simp only [Act.put, List.setIfInBounds_toArray, List.set_cons_zero, List.set_cons_succ]
  refine p_take 2 (.int .i64 from_) rfl (YR.pure (by rfl) fun w hw => y_move w rfl rfl) ?_
  simp only [Act.put, List.setIfInBounds_toArray, List.set_cons_zero, List.set_cons_succ]
  refine p_take 3 m.v rfl (YR.pure (by rfl) fun w hw => y_load44 rfl rfl ((hw.block X5 (Array.getElem?_eq_some_iff.1 HZ.out.2).1 fun e => e).trans HZ.out.2)) ?_
  simp only [Act.put, List.setIfInBounds_toArray, List.set_cons_zero, List.set_cons_succ]
  refine p_one 4 rfl (by rfl) fun wi oi => ?_
  refine wp_enter (y_enterT [.pointer (some ⟨b.C, 0, none⟩), .int .i64 from_, m.v] rfl rfl (by rfl) (call25_ _) wi) ((HCC.out wi (HZ.out.1.trans oi)).mono ?_)
  rintro e w7 ⟨v, rfl, hg⟩
  refine ⟨_, rfl, ?_⟩
  have HE := Lib.hid hg
  clear hg oi
  simp only [Act.put, List.setIfInBounds_toArray, List.set_cons_zero, List.set_cons_succ]
  refine p_take 5 v rfl (YR.pure (by rfl) fun w hw => y_assign w rfl rfl) ?_
  simp only [Act.put, List.setIfInBounds_toArray, List.set_cons_zero, List.set_cons_succ]
  refine p_done fun wz oz => ?_
  have HE2 := Lib.hid (HG.out _ _ _ HE.out oz)
  clear HE oz
  go_wp2_with fail
  go_ret
  exact ⟨v, rfl, HE2.out⟩
theorem index_13 (w : World) : (Instr.index 68 (.agg hearsR.toArray) (.int .u8 13)).run Try.prog w = .ok (.func (.func 26) #[] #[]) w := by kernel_rfl
theorem eqf_13 (w : World) : (binOp .eql 67 (.func (.func 26) #[] #[]) .nilFunc).run Try.prog w = .ok (.bool false) w := by kernel_rfl
theorem hear_13 {w : World} {b : Bk} {s : Cs} (h : CacheAt w b s) (from_ : Int) (m : Mg) (hk : m.kind = 13) (G : Value → World → Prop) (hG : ∀ v w1 w2, G v w1 → Only None' w1 w2 → G v w2) (hc : ∀ w', Only None' w w' → Calls Try.prog 26 #[.pointer (some ⟨b.C, 0, none⟩), .int .i64 from_, m.v] w' fun e w' => ∃ v, e = .returned v ∧ G v w') :
    Calls Try.prog 8 #[.pointer (some ⟨b.C, 0, none⟩), .int .i64 from_, m.v] w fun e w' => ∃ v, e = .returned v ∧ G v w' := by
  have HCC := Lib.hid hc
  have HK := Lib.hid hk
  have HG := Lib.hid hG
  unfold Mg.v
  clear hc hk h hG
  go_enter Try.func8, Try.ntmps8
  go_upto_region 1 with fail
  generalize hX : w.heap.size = X5
  generalize hw1 : w.alloc _ = w1
  have HB : Hid (Only None' w w1 ∧ w1.heap[X5]? = some (.cells m.row.toArray 44 (0, 0))) := Lib.hid ⟨by rw [← hw1]; exact (Only.refl None' w).alloc _, by rw [← hw1, ← hX]; exact heap_alloc_new w _⟩
  clear hX hw1
  have k0 : w1.cell? ⟨X5, 0, none⟩ = some (.int .u8 13) := by rw [(cells_of_row HB.out.2).is 0 _ rfl, HK.out]
  go_upto_region 3 with fail
  have HM : Hid (∀ w', Only None' w1 w' → w'.cell? ⟨X5, 0, none⟩ = some (.int .u8 13)) := Lib.hid fun w' o => (o.cell (cells_of_row HB.out.2).lt (fun e => e) 0).trans k0
  clear k0
  refine r_begin (S := None') (by kernel_rfl) ?_
  have HS := Lib.hid (Only.refl (None') w1)
  refine r_take 0 (.agg hearsR.toArray) rfl (by kernel_rfl) (fun _ _ _ h => h) HS.out (YR.call (by rfl) (fun w => y_enter [] rfl (by rfl) (call19_ _) w) fun w hw => hears_any w) ?_
  simp only [Act.put, List.setIfInBounds_toArray, List.set_cons_zero, List.set_cons_succ]
  refine r_take 1 (.pointer (some ⟨X5, 0, none⟩)) rfl (by kernel_rfl) (fun _ _ _ h => h) HS.out (YR.pure (by rfl) fun w hw => y_f44_0 w rfl rfl) ?_
  simp only [Act.put, List.setIfInBounds_toArray, List.set_cons_zero, List.set_cons_succ]
  refine r_take 2 (.int .u8 13) rfl (by kernel_rfl) (fun _ _ _ h => h) HS.out (YR.pure (by rfl) fun w hw => y_load5 rfl rfl (HM.out w hw)) ?_
  simp only [Act.put, List.setIfInBounds_toArray, List.set_cons_zero, List.set_cons_succ]
  refine r_take 3 (.func (.func 26) #[] #[]) rfl (by kernel_rfl) (fun _ _ _ h => h) HS.out (YR.pure (by rfl) fun w hw => y_index68 w index_13 rfl rfl rfl) ?_
  simp only [Act.put, List.setIfInBounds_toArray, List.set_cons_zero, List.set_cons_succ]
  refine r_take 4 (.func (.func 26) #[] #[]) rfl (by kernel_rfl) (fun _ _ _ h => h) HS.out (YR.pure (by rfl) fun w hw => y_assign w rfl rfl) ?_
  simp only [Act.put, List.setIfInBounds_toArray, List.set_cons_zero, List.set_cons_succ]
  refine r_done (by kernel_rfl) fun wz oz => ?_
  have HZ : Hid (Only None' w wz ∧ wz.heap[X5]? = some (.cells m.row.toArray 44 (0, 0))) := Lib.hid ⟨HB.out.1.trans (HS.out.trans oz), ((HS.out.trans oz).block X5 (Array.getElem?_eq_some_iff.1 HB.out.2).1 fun e => e).trans HB.out.2⟩
  clear HB HS oz HM
  generalize wz = w2 at HZ ⊢
  have hqf := eqf_13
  go_upto_region 6 with fail
  clear hqf
  refine p_begin ?_
  refine p_take 0 (.func (.func 26) #[] #[]) rfl (YR.pure (by rfl) fun w hw => y_move w rfl rfl) ?_
  simp only [Act.put, List.setIfInBounds_toArray, List.set_cons_zero, List.set_cons_succ]
  refine p_take 1 (.pointer (some ⟨b.C, 0, none⟩)) rfl (YR.pure (by rfl) fun w hw => y_move w rfl rfl) ?_
  simp only [Act.put, List.setIfInBounds_toArray, List.set_cons_zero, List.set_cons_succ]
  refine p_take 2 (.int .i64 from_) rfl (YR.pure (by rfl) fun w hw => y_move w rfl rfl) ?_
  simp only [Act.put, List.setIfInBounds_toArray, List.set_cons_zero, List.set_cons_succ]
  refine p_take 3 m.v rfl (YR.pure (by rfl) fun w hw => y_load44 rfl rfl ((hw.block X5 (Array.getElem?_eq_some_iff.1 HZ.out.2).1 fun e => e).trans HZ.out.2)) ?_
  simp only [Act.put, List.setIfInBounds_toArray, List.set_cons_zero, List.set_cons_succ]
  refine p_one 4 rfl (by rfl) fun wi oi => ?_
  refine wp_enter (y_enterT [.pointer (some ⟨b.C, 0, none⟩), .int .i64 from_, m.v] rfl rfl (by rfl) (call26_ _) wi) ((HCC.out wi (HZ.out.1.trans oi)).mono ?_)
  rintro e w7 ⟨v, rfl, hg⟩
  refine ⟨_, rfl, ?_⟩
  have HE := Lib.hid hg
  clear hg oi
  simp only [Act.put, List.setIfInBounds_toArray, List.set_cons_zero, List.set_cons_succ]
  refine p_take 5 v rfl (YR.pure (by rfl) fun w hw => y_assign w rfl rfl) ?_
  simp only [Act.put, List.setIfInBounds_toArray, List.set_cons_zero, List.set_cons_succ]
  refine p_done fun wz oz => ?_
  have HE2 := Lib.hid (HG.out _ _ _ HE.out oz)
  clear HE oz
  go_wp2_with fail
  go_ret
  exact ⟨v, rfl, HE2.out⟩
theorem index_16 (w : World) : (Instr.index 68 (.agg hearsR.toArray) (.int .u8 16)).run Try.prog w = .ok (.func (.func 27) #[] #[]) w := by kernel_rfl
theorem eqf_16 (w : World) : (binOp .eql 67 (.func (.func 27) #[] #[]) .nilFunc).run Try.prog w = .ok (.bool false) w := by kernel_rfl
theorem hear_16 {w : World} {b : Bk} {s : Cs} (h : CacheAt w b s) (from_ : Int) (m : Mg) (hk : m.kind = 16) (G : Value → World → Prop) (hG : ∀ v w1 w2, G v w1 → Only None' w1 w2 → G v w2) (hc : ∀ w', Only None' w w' → Calls Try.prog 27 #[.pointer (some ⟨b.C, 0, none⟩), .int .i64 from_, m.v] w' fun e w' => ∃ v, e = .returned v ∧ G v w') :
    Calls Try.prog 8 #[.pointer (some ⟨b.C, 0, none⟩), .int .i64 from_, m.v] w fun e w' => ∃ v, e = .returned v ∧ G v w' := by
  have HCC := Lib.hid hc
  have HK := Lib.hid hk
  have HG := Lib.hid hG
  unfold Mg.v
  clear hc hk h hG
  go_enter Try.func8, Try.ntmps8
  go_upto_region 1 with fail
  generalize hX : w.heap.size = X5
  generalize hw1 : w.alloc _ = w1
  have HB : Hid (Only None' w w1 ∧ w1.heap[X5]? = some (.cells m.row.toArray 44 (0, 0))) := Lib.hid ⟨by rw [← hw1]; exact (Only.refl None' w).alloc _, by rw [← hw1, ← hX]; exact heap_alloc_new w _⟩
  clear hX hw1
  have k0 : w1.cell? ⟨X5, 0, none⟩ = some (.int .u8 16) := by rw [(cells_of_row HB.out.2).is 0 _ rfl, HK.out]
  go_upto_region 3 with fail
  have HM : Hid (∀ w', Only None' w1 w' → w'.cell? ⟨X5, 0, none⟩ = some (.int .u8 16)) := Lib.hid fun w' o => (o.cell (cells_of_row HB.out.2).lt (fun e => e) 0).trans k0
  clear k0
  refine r_begin (S := None') (by kernel_rfl) ?_
  have HS := Lib.hid (Only.refl (None') w1)
  refine r_take 0 (.agg hearsR.toArray) rfl (by kernel_rfl) (fun _ _ _ h => h) HS.out (YR.call (by rfl) (fun w => y_enter [] rfl (by rfl) (call19_ _) w) fun w hw => hears_any w) ?_
  simp only [Act.put, List.setIfInBounds_toArray, List.set_cons_zero, List.set_cons_succ]
  refine r_take 1 (.pointer (some ⟨X5, 0, none⟩)) rfl (by kernel_rfl) (fun _ _ _ h => h) HS.out (YR.pure (by rfl) fun w hw => y_f44_0 w rfl rfl) ?_
  simp only [Act.put, List.setIfInBounds_toArray, List.set_cons_zero, List.set_cons_succ]
  refine r_take 2 (.int .u8 16) rfl (by kernel_rfl) (fun _ _ _ h => h) HS.out (YR.pure (by rfl) fun w hw => y_load5 rfl rfl (HM.out w hw)) ?_
  simp only [Act.put, List.setIfInBounds_toArray, List.set_cons_zero, List.set_cons_succ]
  refine r_take 3 (.func (.func 27) #[] #[]) rfl (by kernel_rfl) (fun _ _ _ h => h) HS.out (YR.pure (by rfl) fun w hw => y_index68 w index_16 rfl rfl rfl) ?_
  simp only [Act.put, List.setIfInBounds_toArray, List.set_cons_zero, List.set_cons_succ]
  refine r_take 4 (.func (.func 27) #[] #[]) rfl (by kernel_rfl) (fun _ _ _ h => h) HS.out (YR.pure (by rfl) fun w hw => y_assign w rfl rfl) ?_
  simp only [Act.put, List.setIfInBounds_toArray, List.set_cons_zero, List.set_cons_succ]
  refine r_done (by kernel_rfl) fun wz oz => ?_
  have HZ : Hid (Only None' w wz ∧ wz.heap[X5]? = some (.cells m.row.toArray 44 (0, 0))) := Lib.hid ⟨HB.out.1.trans (HS.out.trans oz), ((HS.out.trans oz).block X5 (Array.getElem?_eq_some_iff.1 HB.out.2).1 fun e => e).trans HB.out.2⟩
  clear HB HS oz HM
  generalize wz = w2 at HZ ⊢
  have hqf := eqf_16
  go_upto_region 6 with fail
  clear hqf
  refine p_begin ?_
  refine p_take 0 (.func (.func 27) #[] #[]) rfl (YR.pure (by rfl) fun w hw => y_move w rfl rfl) ?_
  simp only [Act.put, List.setIfInBounds_toArray, List.set_cons_zero, List.set_cons_succ]
  refine p_take 1 (.pointer (some ⟨b.C, 0, none⟩)) rfl (YR.pure (by rfl) fun w hw => y_move w rfl rfl) ?_
  simp only [Act.put, List.setIfInBounds_toArray, List.set_cons_zero, List.set_cons_succ]
  refine p_take 2 (.int .i64 from_) rfl (YR.pure (by rfl) fun w hw => y_move w rfl rfl) ?_
  simp only [Act.put, List.setIfInBounds_toArray, List.set_cons_zero, List.set_cons_succ]
  refine p_take 3 m.v rfl (YR.pure (by rfl) fun w hw => y_load44 rfl rfl ((hw.block X5 (Array.getElem?_eq_some_iff.1 HZ.out.2).1 fun e => e).trans HZ.out.2)) ?_
  simp only [Act.put, List.setIfInBounds_toArray, List.set_cons_zero, List.set_cons_succ]
  refine p_one 4 rfl (by rfl) fun wi oi => ?_
  refine wp_enter (y_enterT [.pointer (some ⟨b.C, 0, none⟩), .int .i64 from_, m.v] rfl rfl (by rfl) (call27_ _) wi) ((HCC.out wi (HZ.out.1.trans oi)).mono ?_)
  rintro e w7 ⟨v, rfl, hg⟩
  refine ⟨_, rfl, ?_⟩
  have HE := Lib.hid hg
  clear hg oi
  simp only [Act.put, List.setIfInBounds_toArray, List.set_cons_zero, List.set_cons_succ]
  refine p_take 5 v rfl (YR.pure (by rfl) fun w hw => y_assign w rfl rfl) ?_
  simp only [Act.put, List.setIfInBounds_toArray, List.set_cons_zero, List.set_cons_succ]
  refine p_done fun wz oz => ?_
  have HE2 := Lib.hid (HG.out _ _ _ HE.out oz)
  clear HE oz
  go_wp2_with fail
  go_ret
  exact ⟨v, rfl, HE2.out⟩
end Go.Proofs.Ytfmpidacklhmaaa
