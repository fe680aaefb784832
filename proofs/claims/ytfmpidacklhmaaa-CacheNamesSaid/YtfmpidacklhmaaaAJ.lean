/- where (25): the first belief. (Printed by tp.py.) -/
import Derived.Test.YtfmpidacklhmaaaBE
namespace Go.Proofs.Ytfmpidacklhmaaa
open Go.RowKit Go.Maps
set_option linter.unusedVariables false
set_option linter.unusedSimpArgs false
set_option maxRecDepth 20000

section
variable {a : Act} {o : Oper} {x y z : Operand}
theorem y_not (w : World) {p : Bool} (ho : o.op = .unOp .not 4 x) (hx : a.eval x = .bool p) : (execOp a.eval o).run Try.prog w = .ok (.value (.bool (!p))) w := by
  unfold execOp
  simp only [ho, hx]
  go_simp
theorem y_pickF (w : World) {v : Value} (ho : o.op = .pick x y z) (hx : a.eval x = .bool false) (hz : a.eval z = v) : (execOp a.eval o).run Try.prog w = .ok (.value v) w := by
  unfold execOp
  simp only [ho, hx, hz]
  go_simp
theorem y_pickT (w : World) {v : Value} (ho : o.op = .pick x y z) (hx : a.eval x = .bool true) (hy : a.eval y = v) : (execOp a.eval o).run Try.prog w = .ok (.value v) w := by
  unfold execOp
  simp only [ho, hx, hy]
  go_simp
theorem y_field101w (w : World) {k : Ak} {p : Bool} (hp : k.whr = p) (ho : o.op = .field 101 x 1) (hx : a.eval x = k.v) : (execOp a.eval o).run Try.prog w = .ok (.value (.bool p)) w := by
  subst hp
  have h : (Instr.field 101 k.v 1).run Try.prog w = .ok (.bool k.whr) w := by kernel_rfl
  unfold execOp
  simp only [ho, hx, Sem.run_bind, h, Result.andThen_ok, Sem.run_pure]
end
def Cs.learned (s : Cs) : Cs := { s with ow := 2, ep := 1 }
set_option maxHeartbeats 1000000 in
theorem hwhere_any {w : World} {b : Bk} (s : Cs) (h : CacheAt w b s) (how : s.ow = 0) (hep : s.ep = 0) (req : Int) (hrq : (Lit.int .i64 req).wf = true) (x : Wt) (hf : s.c.find req = some x) (hx : (Lit.int .i64 x.req).wf = true) (hw : (s.f x.req).whr = true) (hn : s.n ≤ 900000) (hks : x.key.size ≤ 1000000) (from_ : Int) (m : Mg) (hm : m = { kind := 9, req := req, epoch := 1, owner := 2 }) :
    Calls Try.prog 25 #[.pointer (some ⟨b.C, 0, none⟩), .int .i64 from_, m.v] w fun e w' => ∃ v, e = .returned v ∧ Told w w' b (s.learned.fwd x) v (some (s.learned.fwdMail x)) ∧ Did b s (s.learned.fwd x) w w' := by
  have H := Lib.hid h
  have HOW := Lib.hid (And.intro how hep)
  have HX := Lib.hid hx
  have HF := Lib.hid hf
  have HW := Lib.hid hw
  have HN := Lib.hid hn
  have HKS := Lib.hid hks
  have HRQ := Lib.hid hrq
  have HM5 := Lib.hid hm
  unfold Mg.v
  clear h how hep hx hf hw hn hks hrq hm
  go_enter Try.func25, Try.ntmps25
  go_upto_region 1 with fail
  generalize hX : w.heap.size = X5
  generalize hw1 : w.alloc _ = w1
  have HB : Hid (Bx w w1 b s s m X5) := Lib.hid (by
    have o1 : Only None' w w1 := by rw [← hw1]; exact (Only.refl None' w).alloc _
    rw [← hX]
    exact bx_new H.out m o1 (by rw [← hw1]; exact cells_new w m.row 44))
  clear hX hw1
  have HC : Hid (∀ w', Only (fun k => k = b.T) w1 w' → CellsR w' b.C (cacheR b s.clock)) := Lib.hid fun w' o => HB.out.did.at_.blk.kept o (by have := HB.out.did.at_.apart; omega)
  have HM : Hid (∀ w', Only (fun k => k = b.T) w1 w' → CellsR w' X5 m.row) := Lib.hid fun w' o => HB.out.c5.kept o fun e => HB.out.no (.inr (.inr (.inr (.inr (.inr (.inr e))))))
  refine r_begin (S := fun k => k = b.T) (by kernel_rfl) ?_
  have HS := Lib.hid (Only.refl (fun k => k = b.T) w1)
  refine r_take 0 (.pointer (some ⟨b.C, 0, none⟩)) rfl (by kernel_rfl) (fun _ _ _ h => h) HS.out (YR.pure (by rfl) fun w hw => y_move w rfl rfl) ?_
  simp only [Act.put, List.setIfInBounds_toArray, List.set_cons_zero, List.set_cons_succ]
  refine r_take 1 (.pointer (some ⟨b.C, 0, none⟩)) rfl (by kernel_rfl) (fun _ _ _ h => h) HS.out (YR.pure (by rfl) fun w hw => y_nil w rfl rfl) ?_
  simp only [Act.put, List.setIfInBounds_toArray, List.set_cons_zero, List.set_cons_succ]
  refine r_take 2 (.pointer (some ⟨b.C, 16, none⟩)) rfl (by kernel_rfl) (fun _ _ _ h => h) HS.out (YR.pure (by rfl) fun w hw => y_f64_4 w rfl rfl) ?_
  simp only [Act.put, List.setIfInBounds_toArray, List.set_cons_zero, List.set_cons_succ]
  refine r_take 3 (.pointer (some ⟨b.R, 0, none⟩)) rfl (by kernel_rfl) (fun _ _ _ h => h) HS.out (YR.pure (by rfl) fun w hw => y_load59 rfl rfl ((HC.out w hw).is 16 _ rfl)) ?_
  simp only [Act.put, List.setIfInBounds_toArray, List.set_cons_zero, List.set_cons_succ]
  refine r_take 4 (.pointer (some ⟨X5, 1, none⟩)) rfl (by kernel_rfl) (fun _ _ _ h => h) HS.out (YR.pure (by rfl) fun w hw => y_f44_1 w rfl rfl) ?_
  simp only [Act.put, List.setIfInBounds_toArray, List.set_cons_zero, List.set_cons_succ]
  refine r_take 5 (.int .i64 0) rfl (by kernel_rfl) (fun _ _ _ h => h) HS.out (YR.pure (by rfl) fun w hw => y_load3 rfl rfl (by rw [(HM.out w hw).is 1 _ rfl, HM5.out])) ?_
  simp only [Act.put, List.setIfInBounds_toArray, List.set_cons_zero, List.set_cons_succ]
  refine r_take 6 (.pointer (some ⟨X5, 2, none⟩)) rfl (by kernel_rfl) (fun _ _ _ h => h) HS.out (YR.pure (by rfl) fun w hw => y_f44_2 w rfl rfl) ?_
  simp only [Act.put, List.setIfInBounds_toArray, List.set_cons_zero, List.set_cons_succ]
  refine r_take 7 (.int .i64 1) rfl (by kernel_rfl) (fun _ _ _ h => h) HS.out (YR.pure (by rfl) fun w hw => y_load3 rfl rfl (by rw [(HM.out w hw).is 2 _ rfl, HM5.out])) ?_
  simp only [Act.put, List.setIfInBounds_toArray, List.set_cons_zero, List.set_cons_succ]
  refine r_take 8 (.pointer (some ⟨X5, 3, none⟩)) rfl (by kernel_rfl) (fun _ _ _ h => h) HS.out (YR.pure (by rfl) fun w hw => y_f44_3 w rfl rfl) ?_
  simp only [Act.put, List.setIfInBounds_toArray, List.set_cons_zero, List.set_cons_succ]
  refine r_take 9 (.int .i64 2) rfl (by kernel_rfl) (fun _ _ _ h => h) HS.out (YR.pure (by rfl) fun w hw => y_load3 rfl rfl (by rw [(HM.out w hw).is 3 _ rfl, HM5.out])) ?_
  simp only [Act.put, List.setIfInBounds_toArray, List.set_cons_zero, List.set_cons_succ]
  refine r_one 10 rfl (by kernel_rfl) (by rfl) fun wi oi => ?_
  have hr0 := (HB.out.did.at_.new oi).route
  rw [HOW.out.1, HOW.out.2] at hr0
  refine wp_enter (y_enter [.pointer (some ⟨b.R, 0, none⟩), .int .i64 0, .int .i64 1, .int .i64 2] rfl (by rfl) (call42_ _) wi) ((learn_first hr0).mono ?_)
  rintro e wj ⟨rfl, hr, oj⟩
  refine ⟨_, rfl, (HS.out.quiet oi).trans oj, ?_⟩
  simp only [Act.put, List.setIfInBounds_toArray, List.set_cons_zero, List.set_cons_succ]
  have HT := Lib.hid ((HS.out.quiet oi).trans oj)
  have HB2 := Lib.hid ((HB.out.on oi).to ((HB.out.on oi).did.at_.route_to hr (oj.mono fun _ _ e => .inr e)))
  clear HS oi oj hr hr0
  have HS := HT
  clear HT
  refine r_done (by kernel_rfl) fun wz oz => ?_
  have HB3 : Hid (Bx w wz b s s.learned m X5) := Lib.hid (HB2.out.on oz)
  clear HB HB2 HS oz HC HM
  generalize wz = w2 at HB3 ⊢
  go_upto_region 2 with fail
  have HA : Hid (∀ w', Only None' w2 w' → CacheAt w' b s.learned) := Lib.hid fun w' o => HB3.out.did.at_.new o
  have HM : Hid (∀ w', Only None' w2 w' → CellsR w' X5 m.row) := Lib.hid fun w' o => HB3.out.c5.kept o fun e => e
  have HLK : Hid (∀ w', Only None' w2 w' → Calls Try.prog 40 #[.pointer (some ⟨b.Bc, 0, none⟩), .int .i64 req] w' fun e w'' => e = .returned (.tuple #[x.v, .bool true]) ∧ Only None' w' w'') := Lib.hid fun w' o => by
    have := look_any (HA.out w' o).calls req HRQ.out
    rw [show (s.learned.c.find req) = some x from HF.out] at this
    exact this
  refine r_begin (S := None') (by kernel_rfl) ?_
  have HS := Lib.hid (Only.refl (None') w2)
  refine r_take 0 (.pointer (some ⟨b.C, 0, none⟩)) rfl (by kernel_rfl) (fun _ _ _ h => h) HS.out (YR.pure (by rfl) fun w hw => y_move w rfl rfl) ?_
  simp only [Act.put, List.setIfInBounds_toArray, List.set_cons_zero, List.set_cons_succ]
  refine r_take 1 (.pointer (some ⟨b.C, 0, none⟩)) rfl (by kernel_rfl) (fun _ _ _ h => h) HS.out (YR.pure (by rfl) fun w hw => y_nil w rfl rfl) ?_
  simp only [Act.put, List.setIfInBounds_toArray, List.set_cons_zero, List.set_cons_succ]
  refine r_take 2 (.pointer (some ⟨b.C, 17, none⟩)) rfl (by kernel_rfl) (fun _ _ _ h => h) HS.out (YR.pure (by rfl) fun w hw => y_f64_5 w rfl rfl) ?_
  simp only [Act.put, List.setIfInBounds_toArray, List.set_cons_zero, List.set_cons_succ]
  refine r_take 3 (.pointer (some ⟨b.Bc, 0, none⟩)) rfl (by kernel_rfl) (fun _ _ _ h => h) HS.out (YR.pure (by rfl) fun w hw => y_load53 rfl rfl ((HA.out w hw).cells.c17)) ?_
  simp only [Act.put, List.setIfInBounds_toArray, List.set_cons_zero, List.set_cons_succ]
  refine r_take 4 (.pointer (some ⟨X5, 4, none⟩)) rfl (by kernel_rfl) (fun _ _ _ h => h) HS.out (YR.pure (by rfl) fun w hw => y_f44_4 w rfl rfl) ?_
  simp only [Act.put, List.setIfInBounds_toArray, List.set_cons_zero, List.set_cons_succ]
  refine r_take 5 (.int .i64 req) rfl (by kernel_rfl) (fun _ _ _ h => h) HS.out (YR.pure (by rfl) fun w hw => y_load3 rfl rfl (by rw [(HM.out w hw).is 4 _ rfl, HM5.out])) ?_
  simp only [Act.put, List.setIfInBounds_toArray, List.set_cons_zero, List.set_cons_succ]
  refine r_take 6 (.tuple #[x.v, .bool true]) rfl (by kernel_rfl) (fun _ _ _ h => h) HS.out (YR.call (by rfl) (fun w => y_enter [.pointer (some ⟨b.Bc, 0, none⟩), .int .i64 req] rfl (by rfl) (call40_ _) w) fun w hw => HLK.out w hw) ?_
  simp only [Act.put, List.setIfInBounds_toArray, List.set_cons_zero, List.set_cons_succ]
  refine r_take 7 (.tuple #[x.v, .bool true]) rfl (by kernel_rfl) (fun _ _ _ h => h) HS.out (YR.pure (by rfl) fun w hw => y_move w rfl rfl) ?_
  simp only [Act.put, List.setIfInBounds_toArray, List.set_cons_zero, List.set_cons_succ]
  refine r_take 8 (x.v) rfl (by kernel_rfl) (fun _ _ _ h => h) HS.out (YR.pure (by rfl) fun w hw => y_ext0 w rfl rfl) ?_
  simp only [Act.put, List.setIfInBounds_toArray, List.set_cons_zero, List.set_cons_succ]
  refine r_take 9 (.bool true) rfl (by kernel_rfl) (fun _ _ _ h => h) HS.out (YR.pure (by rfl) fun w hw => y_ext1 w rfl rfl) ?_
  simp only [Act.put, List.setIfInBounds_toArray, List.set_cons_zero, List.set_cons_succ]
  refine r_one 10 rfl (by kernel_rfl) (by rfl) fun wi oi => ?_
  refine wp_alloc (n := 7) rfl alloc74 rfl fun X7 wj hX hm oj => ⟨HS.out.quiet (oi.trans oj), ?_⟩
  simp only [Act.put, List.setIfInBounds_toArray, List.set_cons_zero, List.set_cons_succ]
  have HXX7 : Hid (_ ≤ X7) := Lib.hid (Nat.le_trans (HS.out.quiet oi).size (Nat.le_of_eq hX.symm))
  have HLX7 := Lib.hid (Lx.new HB3.out oi hX hm)
  have HB4 := Lib.hid (HB3.out.on (oi.trans oj))
  have HT := Lib.hid (HS.out.quiet (oi.trans oj))
  clear hm hX oi oj HS
  have HS := HT
  clear HT
  refine r_one 11 rfl (by kernel_rfl) (by rfl) fun wi oi => ?_
  refine wp_store_new (row := x.row) rfl rfl rfl (HLX7.out.made.only oi fun e => e) size74 (by simp [Wt.row, Value.oneCell']) fun wj hc oj => ⟨(HS.out.quiet oi).trans2 oj (fun k hk e => by have := HXX7.out; omega), ?_⟩
  simp only [Act.put, List.setIfInBounds_toArray, List.set_cons_zero, List.set_cons_succ]
  have HCX7 := Lib.hid hc
  have HB5 := Lib.hid ((HB4.out.on oi).stored oj HLX7.out)
  have HT := Lib.hid ((HS.out.quiet oi).trans2 oj (fun k hk e => by have := HXX7.out; omega))
  clear hc oi oj HS
  have HS := HT
  clear HT
  refine r_take 12 (.bool true) rfl (by kernel_rfl) (fun _ _ _ h => h) HS.out (YR.pure (by rfl) fun w hw => y_assign w rfl rfl) ?_
  simp only [Act.put, List.setIfInBounds_toArray, List.set_cons_zero, List.set_cons_succ]
  refine r_done (by kernel_rfl) fun wz oz => ?_
  have HZ : Hid (Bx w wz b s s.learned m X5 ∧ CellsR wz X7 x.row) := Lib.hid ⟨HB5.out.on oz, HCX7.out.kept oz fun e => e⟩
  clear HB3 HB4 HB5 HS oz HA HM HLK HCX7 HXX7 HLX7
  generalize wz = w3 at HZ ⊢
  go_upto_region 3 with fail
  have HA : Hid (∀ w', Only None' w3 w' → CacheAt w' b s.learned) := Lib.hid fun w' o => HZ.out.1.did.at_.new o
  have H7 : Hid (∀ w', Only None' w3 w' → CellsR w' X7 x.row) := Lib.hid fun w' o => HZ.out.2.kept o fun e => e
  refine r_begin (S := None') (by kernel_rfl) ?_
  have HS := Lib.hid (Only.refl (None') w3)
  refine r_take 0 (.bool true) rfl (by kernel_rfl) (fun _ _ _ h => h) HS.out (YR.pure (by rfl) fun w hw => y_move w rfl rfl) ?_
  simp only [Act.put, List.setIfInBounds_toArray, List.set_cons_zero, List.set_cons_succ]
  refine r_take 1 (.bool false) rfl (by kernel_rfl) (fun _ _ _ h => h) HS.out (YR.pure (by rfl) fun w hw => y_not w (p := true) rfl rfl) ?_
  simp only [Act.put, List.setIfInBounds_toArray, List.set_cons_zero, List.set_cons_succ]
  refine r_take 2 (.bool false) rfl (by kernel_rfl) (fun _ _ _ h => h) HS.out (YR.pure (by rfl) fun w hw => y_move w rfl rfl) ?_
  simp only [Act.put, List.setIfInBounds_toArray, List.set_cons_zero, List.set_cons_succ]
  refine r_take 3 (.pointer (some ⟨b.C, 0, none⟩)) rfl (by kernel_rfl) (fun _ _ _ h => h) HS.out (YR.pure (by rfl) fun w hw => y_move w rfl rfl) ?_
  simp only [Act.put, List.setIfInBounds_toArray, List.set_cons_zero, List.set_cons_succ]
  refine r_take 4 (.pointer (some ⟨b.C, 0, none⟩)) rfl (by kernel_rfl) (fun _ _ _ h => h) HS.out (YR.pure (by rfl) fun w hw => y_nil w rfl rfl) ?_
  simp only [Act.put, List.setIfInBounds_toArray, List.set_cons_zero, List.set_cons_succ]
  refine r_take 5 (.pointer (some ⟨b.C, 18, none⟩)) rfl (by kernel_rfl) (fun _ _ _ h => h) HS.out (YR.pure (by rfl) fun w hw => y_f64_6 w rfl rfl) ?_
  simp only [Act.put, List.setIfInBounds_toArray, List.set_cons_zero, List.set_cons_succ]
  refine r_take 6 (.map (some b.Ma)) rfl (by kernel_rfl) (fun _ _ _ h => h) HS.out (YR.pure (by rfl) fun w hw => y_load62 rfl rfl ((HA.out w hw).cells.c18)) ?_
  simp only [Act.put, List.setIfInBounds_toArray, List.set_cons_zero, List.set_cons_succ]
  refine r_take 7 (.pointer (some ⟨X7, 0, none⟩)) rfl (by kernel_rfl) (fun _ _ _ h => h) HS.out (YR.pure (by rfl) fun w hw => y_f74_0 w rfl rfl) ?_
  simp only [Act.put, List.setIfInBounds_toArray, List.set_cons_zero, List.set_cons_succ]
  refine r_take 8 (.int .i64 x.req) rfl (by kernel_rfl) (fun _ _ _ h => h) HS.out (YR.pure (by rfl) fun w hw => y_load3 rfl rfl ((H7.out w hw).is 0 _ rfl)) ?_
  simp only [Act.put, List.setIfInBounds_toArray, List.set_cons_zero, List.set_cons_succ]
  refine r_take 9 ((s.learned.f x.req).v) rfl (by kernel_rfl) (fun _ _ _ h => h) HS.out (YR.pure (by rfl) fun w hw => y_look62 rfl rfl rfl (HA.out w hw).asked HX.out) ?_
  simp only [Act.put, List.setIfInBounds_toArray, List.set_cons_zero, List.set_cons_succ]
  refine r_take 10 (.bool true) rfl (by kernel_rfl) (fun _ _ _ h => h) HS.out (YR.pure (by rfl) fun w hw => y_field101w w (k := s.learned.f x.req) HW.out rfl rfl) ?_
  simp only [Act.put, List.setIfInBounds_toArray, List.set_cons_zero, List.set_cons_succ]
  refine r_take 11 (.bool false) rfl (by kernel_rfl) (fun _ _ _ h => h) HS.out (YR.pure (by rfl) fun w hw => y_not w (p := true) rfl rfl) ?_
  simp only [Act.put, List.setIfInBounds_toArray, List.set_cons_zero, List.set_cons_succ]
  refine r_take 12 (.bool false) rfl (by kernel_rfl) (fun _ _ _ h => h) HS.out (YR.pure (by rfl) fun w hw => y_pickF w rfl rfl rfl) ?_
  simp only [Act.put, List.setIfInBounds_toArray, List.set_cons_zero, List.set_cons_succ]
  refine r_done (by kernel_rfl) fun wz oz => ?_
  have HZ2 : Hid (Bx w wz b s s.learned m X5 ∧ CellsR wz X7 x.row) := Lib.hid ⟨HZ.out.1.on (HS.out.trans oz), HZ.out.2.kept (HS.out.trans oz) fun e => e⟩
  clear HZ HS oz HA H7
  generalize wz = w4 at HZ2 ⊢
  go_upto_region 5 with fail
  have HA : Hid (∀ w', Only None' w4 w' → CacheAt w' b s.learned) := Lib.hid fun w' o => HZ2.out.1.did.at_.new o
  have H7 : Hid (∀ w', Only None' w4 w' → CellsR w' X7 x.row) := Lib.hid fun w' o => HZ2.out.2.kept o fun e => e
  refine r_begin (S := None') (by kernel_rfl) ?_
  have HS := Lib.hid (Only.refl (None') w4)
  refine r_take 0 (.pointer (some ⟨b.C, 0, none⟩)) rfl (by kernel_rfl) (fun _ _ _ h => h) HS.out (YR.pure (by rfl) fun w hw => y_move w rfl rfl) ?_
  simp only [Act.put, List.setIfInBounds_toArray, List.set_cons_zero, List.set_cons_succ]
  refine r_take 1 (.pointer (some ⟨b.C, 0, none⟩)) rfl (by kernel_rfl) (fun _ _ _ h => h) HS.out (YR.pure (by rfl) fun w hw => y_nil w rfl rfl) ?_
  simp only [Act.put, List.setIfInBounds_toArray, List.set_cons_zero, List.set_cons_succ]
  refine r_take 2 (.pointer (some ⟨b.C, 16, none⟩)) rfl (by kernel_rfl) (fun _ _ _ h => h) HS.out (YR.pure (by rfl) fun w hw => y_f64_4 w rfl rfl) ?_
  simp only [Act.put, List.setIfInBounds_toArray, List.set_cons_zero, List.set_cons_succ]
  refine r_take 3 (.pointer (some ⟨b.R, 0, none⟩)) rfl (by kernel_rfl) (fun _ _ _ h => h) HS.out (YR.pure (by rfl) fun w hw => y_load59 rfl rfl ((HA.out w hw).cells.c16)) ?_
  simp only [Act.put, List.setIfInBounds_toArray, List.set_cons_zero, List.set_cons_succ]
  refine r_take 4 (.pointer (some ⟨b.C, 0, none⟩)) rfl (by kernel_rfl) (fun _ _ _ h => h) HS.out (YR.pure (by rfl) fun w hw => y_move w rfl rfl) ?_
  simp only [Act.put, List.setIfInBounds_toArray, List.set_cons_zero, List.set_cons_succ]
  refine r_take 5 (.pointer (some ⟨X7, 1, none⟩)) rfl (by kernel_rfl) (fun _ _ _ h => h) HS.out (YR.pure (by rfl) fun w hw => y_f74_1 w rfl rfl) ?_
  simp only [Act.put, List.setIfInBounds_toArray, List.set_cons_zero, List.set_cons_succ]
  refine r_take 6 (.string x.key) rfl (by kernel_rfl) (fun _ _ _ h => h) HS.out (YR.pure (by rfl) fun w hw => y_load9 rfl rfl ((H7.out w hw).is 1 _ rfl)) ?_
  simp only [Act.put, List.setIfInBounds_toArray, List.set_cons_zero, List.set_cons_succ]
  refine r_take 7 (.int .i64 0) rfl (by kernel_rfl) (fun _ _ _ h => h) HS.out (YR.call (by rfl) (fun w => y_enter [.pointer (some ⟨b.C, 0, none⟩), .string x.key] rfl (by rfl) (call38_ _) w) fun w hw => place38_any (HA.out w hw).cells.c3 x.key HKS.out) ?_
  simp only [Act.put, List.setIfInBounds_toArray, List.set_cons_zero, List.set_cons_succ]
  refine r_take 8 (.tuple #[.int .i64 2, .int .i64 1]) rfl (by kernel_rfl) (fun _ _ _ h => h) HS.out (YR.call (by rfl) (fun w => y_enter [.pointer (some ⟨b.R, 0, none⟩), .int .i64 0] rfl (by rfl) (call43_ _) w) fun w hw => owner_any (HA.out w hw).route) ?_
  simp only [Act.put, List.setIfInBounds_toArray, List.set_cons_zero, List.set_cons_succ]
  refine r_take 9 (.tuple #[.int .i64 2, .int .i64 1]) rfl (by kernel_rfl) (fun _ _ _ h => h) HS.out (YR.pure (by rfl) fun w hw => y_move w rfl rfl) ?_
  simp only [Act.put, List.setIfInBounds_toArray, List.set_cons_zero, List.set_cons_succ]
  refine r_take 10 (.int .i64 2) rfl (by kernel_rfl) (fun _ _ _ h => h) HS.out (YR.pure (by rfl) fun w hw => y_ext0 w rfl rfl) ?_
  simp only [Act.put, List.setIfInBounds_toArray, List.set_cons_zero, List.set_cons_succ]
  refine r_take 11 (.int .i64 1) rfl (by kernel_rfl) (fun _ _ _ h => h) HS.out (YR.pure (by rfl) fun w hw => y_ext1 w rfl rfl) ?_
  simp only [Act.put, List.setIfInBounds_toArray, List.set_cons_zero, List.set_cons_succ]
  refine r_take 12 (.int .i64 2) rfl (by kernel_rfl) (fun _ _ _ h => h) HS.out (YR.pure (by rfl) fun w hw => y_assign w rfl rfl) ?_
  simp only [Act.put, List.setIfInBounds_toArray, List.set_cons_zero, List.set_cons_succ]
  refine r_take 13 (.int .i64 1) rfl (by kernel_rfl) (fun _ _ _ h => h) HS.out (YR.pure (by rfl) fun w hw => y_assign w rfl rfl) ?_
  simp only [Act.put, List.setIfInBounds_toArray, List.set_cons_zero, List.set_cons_succ]
  refine r_done (by kernel_rfl) fun wz oz => ?_
  have HZ3 : Hid (Bx w wz b s s.learned m X5 ∧ CellsR wz X7 x.row) := Lib.hid ⟨HZ2.out.1.on (HS.out.trans oz), HZ2.out.2.kept (HS.out.trans oz) fun e => e⟩
  clear HZ2 HS oz HA H7
  generalize wz = w5 at HZ3 ⊢
  have k0 := HZ3.out.2.is 0 _ rfl
  have k1 := HZ3.out.2.is 1 _ rfl
  have k2 := HZ3.out.2.is 2 _ rfl
  have k3 := HZ3.out.2.is 3 _ rfl
  have k4 := HZ3.out.2.is 4 _ rfl
  have k5 := HZ3.out.2.is 5 _ rfl
  have k6 := HZ3.out.2.is 6 _ rfl
  go_wp2_with fail
  refine (fwd_any HZ3.out.1.did.at_ x HX.out HKS.out (show s.n ≤ 1000000 by have := HN.out; omega) (fun e => by simp [Cs.learned] at e)).mono ?_
  rintro e w7 ⟨v, rfl, ht, hd⟩
  have HE := Lib.hid (And.intro ht hd)
  clear ht hd k0 k1 k2 k3 k4 k5 k6
  go_wp2_with fail
  go_ret
  exact ⟨v, rfl, HE.out.1.from_ HZ3.out.1.did.kept.only.size, HZ3.out.1.did.trans HE.out.2⟩
end Go.Proofs.Ytfmpidacklhmaaa
