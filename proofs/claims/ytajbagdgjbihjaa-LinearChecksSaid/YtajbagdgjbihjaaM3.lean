/- The law's works (9): the examples are told apart. -/
import Derived.Test.YtajbagdgjbihjaaM2
import Derived.Test.YtajbagdgjbihjaaNF
namespace Go.Proofs.Ytajbagdgjbihjaa
open Go.RowKit Go.Maps
set_option linter.unusedVariables false

def putO : Op5 := ⟨2, ⟨#[107]⟩, ⟨#[49]⟩, ⟨#[]⟩, false⟩
def getO : Op5 := ⟨1, ⟨#[107]⟩, ⟨#[]⟩, ⟨#[]⟩, false⟩
theorem check_lit {w : World} {v : Value} {l : List Ev} {b : Bool} {n : Int} (h : ER w v l) (hl : decide (l.length ≤ 1000) = true) (hw : l.all (fun e => (Lit.int .i64 e.client).wf && (Lit.int .i64 e.id).wf && decide (e.key.size ≤ 1000)) = true) (hc : checkOf l = (b, n)) : Calls Try.prog 10 #[v] w fun e w' => e = .returned (.tuple #[.bool b, .int .i64 n]) ∧ Only None' w w' := by
  have := check_any h (of_decide_eq_true hl) fun e he => by
    have h1 := List.all_eq_true.1 hw e he
    simp only [Bool.and_eq_true, decide_eq_true_eq] at h1
    exact ⟨h1.1.1, h1.1.2, Nat.le_trans h1.2 (by decide)⟩
  rw [hc] at this
  exact this
theorem old_cells {w w' : World} {X : Nat} {us : List Value} (c : CellsR w X us) : ∀ w', Only None' w w' → CellsR w' X us := fun w' o => c.kept o fun e => e
set_option maxRecDepth 20000 in
set_option maxHeartbeats 1000000 in
theorem works_any (w : World) : Calls Try.prog 9 #[] w fun e w' => e = .returned (.bool true) ∧ Only None' w w' := by
  go_enter Try.func9, Try.ntmps9
  go_upto_region 3 with fail
  generalize hX1 : w.heap.size = X1
  generalize hw1 : (w.alloc (.cells #[.int .u8 2, .string ⟨#[107]⟩, .string ⟨#[49]⟩, .string ⟨#[]⟩, .bool false] 24)).alloc (.cells #[.int .u8 1, .string ⟨#[107]⟩, .string ⟨#[]⟩, .string ⟨#[]⟩, .bool false] 24) = w1
  have o1 : Only None' w w1 := by rw [← hw1]; exact ((Only.refl None' w).alloc _).alloc _
  have c1 : CellsR w1 X1 putO.row := by
    rw [← hw1, ← hX1]
    exact (cells_new w putO.row 24).kept ((Only.refl None' _).alloc _) fun e => e
  have c2 : CellsR w1 (X1 + 1) getO.row := by
    rw [← hw1, ← hX1]
    have := cells_new (w.alloc (.cells #[.int .u8 2, .string ⟨#[107]⟩, .string ⟨#[49]⟩, .string ⟨#[]⟩, .bool false] 24)) getO.row 24
    have e : (w.alloc (.cells #[.int .u8 2, .string ⟨#[107]⟩, .string ⟨#[49]⟩, .string ⟨#[]⟩, .bool false] 24)).heap.size = w.heap.size + 1 := by simp
    rwa [e] at this
  have C1 := Lib.hid c1
  have C2 := Lib.hid c2
  have O1 := Lib.hid o1
  clear c1 c2 o1 hw1 hX1
  go_cut [3, 4] from 11 to 21 (fun u3 u4 wx => u3 = .bool true ∧ u4 = .int .i64 0 ∧ Hid (Only None' w1 wx))
  case first =>
    have H1 : ∀ w', Only None' w1 w' → CellsR w' X1 putO.row := fun w' o => C1.out.kept (o) fun e => e
    have H2 : ∀ w', Only None' w1 w' → CellsR w' (X1 + 1) getO.row := fun w' o => C2.out.kept (o) fun e => e
    refine r_begin (S := None') (by kernel_rfl) ?_
    have HS := Lib.hid (Only.refl None' w1)
    refine r_take 0 (putO.v) rfl (by kernel_rfl) (fun _ _ _ h => h) HS.out (YR.pure (by rfl) fun w hw => y_load24 rfl rfl (H1 w hw)) ?_
    simp only [Act.put, List.setIfInBounds_toArray, List.set_cons_zero, List.set_cons_succ]
    refine r_take 1 ((callE 201 1 putO).vv) rfl (by kernel_rfl) (fun _ _ _ h => h) HS.out (YR.call (by rfl) (fun w => y_enter [.int .i64 201, .int .i64 1, putO.v] rfl (by rfl) (call11 _) w) fun w hw => call_any w 201 1 putO) ?_
    simp only [Act.put, List.setIfInBounds_toArray, List.set_cons_zero, List.set_cons_succ]
    refine r_take 2 ((backE 201 1 false ⟨#[]⟩).vv) rfl (by kernel_rfl) (fun _ _ _ h => h) HS.out (YR.call (by rfl) (fun w => y_enter [.int .i64 201, .int .i64 1, .bool false, .string ⟨#[]⟩] rfl (by rfl) (call12 _) w) fun w hw => back_any w 201 1 false ⟨#[]⟩) ?_
    simp only [Act.put, List.setIfInBounds_toArray, List.set_cons_zero, List.set_cons_succ]
    refine r_take 3 (getO.v) rfl (by kernel_rfl) (fun _ _ _ h => h) HS.out (YR.pure (by rfl) fun w hw => y_load24 rfl rfl (H2 w hw)) ?_
    simp only [Act.put, List.setIfInBounds_toArray, List.set_cons_zero, List.set_cons_succ]
    refine r_take 4 ((callE 201 2 getO).vv) rfl (by kernel_rfl) (fun _ _ _ h => h) HS.out (YR.call (by rfl) (fun w => y_enter [.int .i64 201, .int .i64 2, getO.v] rfl (by rfl) (call11 _) w) fun w hw => call_any w 201 2 getO) ?_
    simp only [Act.put, List.setIfInBounds_toArray, List.set_cons_zero, List.set_cons_succ]
    refine r_take 5 ((backE 201 2 true ⟨#[49]⟩).vv) rfl (by kernel_rfl) (fun _ _ _ h => h) HS.out (YR.call (by rfl) (fun w => y_enter [.int .i64 201, .int .i64 2, .bool true, .string ⟨#[49]⟩] rfl (by rfl) (call12 _) w) fun w hw => back_any w 201 2 true ⟨#[49]⟩) ?_
    simp only [Act.put, List.setIfInBounds_toArray, List.set_cons_zero, List.set_cons_succ]
    refine r_one 6 rfl (by kernel_rfl) (by rfl) fun wi oi => ?_
    refine wp_events [callE 201 1 putO, backE 201 1 false ⟨#[]⟩, callE 201 2 getO, backE 201 2 true ⟨#[49]⟩] _ 4 rfl rfl (by decide) (by decide) (by rfl) fun vs wj he _ oj => ⟨HS.out.trans (oi.trans oj), ?_⟩
    simp only [Act.put, List.setIfInBounds_toArray, List.set_cons_zero, List.set_cons_succ]
    have HE := Lib.hid he
    have HSS := Lib.hid (HS.out.trans (oi.trans oj))
    clear he oi oj
    refine r_one 7 rfl (by kernel_rfl) (by rfl) fun wk ok => ?_
    refine wp_enter (y_enter [vs] rfl (by rfl) (call10 _) wk) ((check_lit (b := true) (n := 0) (HE.out.only ok fun _ _ e => e) (by decide) (by decide) (by kernel_rfl)).mono ?_)
    rintro e wl ⟨rfl, ol⟩
    refine ⟨_, rfl, HSS.out.trans (ok.trans ol), ?_⟩
    simp only [Act.put, List.setIfInBounds_toArray, List.set_cons_zero, List.set_cons_succ]
    have HT := Lib.hid (HSS.out.trans (ok.trans ol))
    clear HE HSS HS ok ol
    have HS := HT
    refine r_take 8 (.tuple #[.bool true, .int .i64 0]) rfl (by kernel_rfl) (fun _ _ _ h => h) HS.out (YR.pure (by rfl) fun w hw => y_move w rfl rfl) ?_
    simp only [Act.put, List.setIfInBounds_toArray, List.set_cons_zero, List.set_cons_succ]
    refine r_take 9 (.bool true) rfl (by kernel_rfl) (fun _ _ _ h => h) HS.out (YR.pure (by rfl) fun w hw => y_ext0 w rfl rfl) ?_
    simp only [Act.put, List.setIfInBounds_toArray, List.set_cons_zero, List.set_cons_succ]
    refine r_take 10 (.int .i64 0) rfl (by kernel_rfl) (fun _ _ _ h => h) HS.out (YR.pure (by rfl) fun w hw => y_ext1 w rfl rfl) ?_
    simp only [Act.put, List.setIfInBounds_toArray, List.set_cons_zero, List.set_cons_succ]
    refine r_take 11 (.bool true) rfl (by kernel_rfl) (fun _ _ _ h => h) HS.out (YR.pure (by rfl) fun w hw => y_assign w rfl rfl) ?_
    simp only [Act.put, List.setIfInBounds_toArray, List.set_cons_zero, List.set_cons_succ]
    refine r_take 12 (.int .i64 0) rfl (by kernel_rfl) (fun _ _ _ h => h) HS.out (YR.pure (by rfl) fun w hw => y_assign w rfl rfl) ?_
    simp only [Act.put, List.setIfInBounds_toArray, List.set_cons_zero, List.set_cons_succ]
    refine r_done (by kernel_rfl) fun wz oz => ?_
    have HZ := Lib.hid (HS.out.trans oz)
    clear HS oz
    go_wp2_with fail
    go_meet
    exact ⟨rfl, rfl, Lib.hid (HZ.out)⟩
  case rest =>
    obtain ⟨rfl, rfl, HW⟩ := hcut
    rename World => wx
    go_upto_region 4 with fail
    go_cut [5, 6] from 22 to 32 (fun u5 u6 wx => u5 = .bool false ∧ u6 = .int .i64 0 ∧ Hid (Only None' w1 wx))
    case first =>
      have H1 : ∀ w', Only None' wx w' → CellsR w' X1 putO.row := fun w' o => C1.out.kept (HW.out.trans o) fun e => e
      have H2 : ∀ w', Only None' wx w' → CellsR w' (X1 + 1) getO.row := fun w' o => C2.out.kept (HW.out.trans o) fun e => e
      refine r_begin (S := None') (by kernel_rfl) ?_
      have HS := Lib.hid (Only.refl None' wx)
      refine r_take 0 (putO.v) rfl (by kernel_rfl) (fun _ _ _ h => h) HS.out (YR.pure (by rfl) fun w hw => y_load24 rfl rfl (H1 w hw)) ?_
      simp only [Act.put, List.setIfInBounds_toArray, List.set_cons_zero, List.set_cons_succ]
      refine r_take 1 ((callE 201 1 putO).vv) rfl (by kernel_rfl) (fun _ _ _ h => h) HS.out (YR.call (by rfl) (fun w => y_enter [.int .i64 201, .int .i64 1, putO.v] rfl (by rfl) (call11 _) w) fun w hw => call_any w 201 1 putO) ?_
      simp only [Act.put, List.setIfInBounds_toArray, List.set_cons_zero, List.set_cons_succ]
      refine r_take 2 ((backE 201 1 false ⟨#[]⟩).vv) rfl (by kernel_rfl) (fun _ _ _ h => h) HS.out (YR.call (by rfl) (fun w => y_enter [.int .i64 201, .int .i64 1, .bool false, .string ⟨#[]⟩] rfl (by rfl) (call12 _) w) fun w hw => back_any w 201 1 false ⟨#[]⟩) ?_
      simp only [Act.put, List.setIfInBounds_toArray, List.set_cons_zero, List.set_cons_succ]
      refine r_take 3 (getO.v) rfl (by kernel_rfl) (fun _ _ _ h => h) HS.out (YR.pure (by rfl) fun w hw => y_load24 rfl rfl (H2 w hw)) ?_
      simp only [Act.put, List.setIfInBounds_toArray, List.set_cons_zero, List.set_cons_succ]
      refine r_take 4 ((callE 201 2 getO).vv) rfl (by kernel_rfl) (fun _ _ _ h => h) HS.out (YR.call (by rfl) (fun w => y_enter [.int .i64 201, .int .i64 2, getO.v] rfl (by rfl) (call11 _) w) fun w hw => call_any w 201 2 getO) ?_
      simp only [Act.put, List.setIfInBounds_toArray, List.set_cons_zero, List.set_cons_succ]
      refine r_take 5 ((backE 201 2 false ⟨#[]⟩).vv) rfl (by kernel_rfl) (fun _ _ _ h => h) HS.out (YR.call (by rfl) (fun w => y_enter [.int .i64 201, .int .i64 2, .bool false, .string ⟨#[]⟩] rfl (by rfl) (call12 _) w) fun w hw => back_any w 201 2 false ⟨#[]⟩) ?_
      simp only [Act.put, List.setIfInBounds_toArray, List.set_cons_zero, List.set_cons_succ]
      refine r_one 6 rfl (by kernel_rfl) (by rfl) fun wi oi => ?_
      refine wp_events [callE 201 1 putO, backE 201 1 false ⟨#[]⟩, callE 201 2 getO, backE 201 2 false ⟨#[]⟩] _ 4 rfl rfl (by decide) (by decide) (by rfl) fun vs wj he _ oj => ⟨HS.out.trans (oi.trans oj), ?_⟩
      simp only [Act.put, List.setIfInBounds_toArray, List.set_cons_zero, List.set_cons_succ]
      have HE := Lib.hid he
      have HSS := Lib.hid (HS.out.trans (oi.trans oj))
      clear he oi oj
      refine r_one 7 rfl (by kernel_rfl) (by rfl) fun wk ok => ?_
      refine wp_enter (y_enter [vs] rfl (by rfl) (call10 _) wk) ((check_lit (b := false) (n := 0) (HE.out.only ok fun _ _ e => e) (by decide) (by decide) (by kernel_rfl)).mono ?_)
      rintro e wl ⟨rfl, ol⟩
      refine ⟨_, rfl, HSS.out.trans (ok.trans ol), ?_⟩
      simp only [Act.put, List.setIfInBounds_toArray, List.set_cons_zero, List.set_cons_succ]
      have HT := Lib.hid (HSS.out.trans (ok.trans ol))
      clear HE HSS HS ok ol
      have HS := HT
      refine r_take 8 (.tuple #[.bool false, .int .i64 0]) rfl (by kernel_rfl) (fun _ _ _ h => h) HS.out (YR.pure (by rfl) fun w hw => y_move w rfl rfl) ?_
      simp only [Act.put, List.setIfInBounds_toArray, List.set_cons_zero, List.set_cons_succ]
      refine r_take 9 (.bool false) rfl (by kernel_rfl) (fun _ _ _ h => h) HS.out (YR.pure (by rfl) fun w hw => y_ext0 w rfl rfl) ?_
      simp only [Act.put, List.setIfInBounds_toArray, List.set_cons_zero, List.set_cons_succ]
      refine r_take 10 (.int .i64 0) rfl (by kernel_rfl) (fun _ _ _ h => h) HS.out (YR.pure (by rfl) fun w hw => y_ext1 w rfl rfl) ?_
      simp only [Act.put, List.setIfInBounds_toArray, List.set_cons_zero, List.set_cons_succ]
      refine r_take 11 (.bool false) rfl (by kernel_rfl) (fun _ _ _ h => h) HS.out (YR.pure (by rfl) fun w hw => y_assign w rfl rfl) ?_
      simp only [Act.put, List.setIfInBounds_toArray, List.set_cons_zero, List.set_cons_succ]
      refine r_take 12 (.int .i64 0) rfl (by kernel_rfl) (fun _ _ _ h => h) HS.out (YR.pure (by rfl) fun w hw => y_assign w rfl rfl) ?_
      simp only [Act.put, List.setIfInBounds_toArray, List.set_cons_zero, List.set_cons_succ]
      refine r_done (by kernel_rfl) fun wz oz => ?_
      have HZ := Lib.hid (HS.out.trans oz)
      clear HS oz
      go_wp2_with fail
      go_meet
      exact ⟨rfl, rfl, Lib.hid (HW.out.trans HZ.out)⟩
    case rest =>
      obtain ⟨rfl, rfl, HW⟩ := hcut
      rename World => wx
      go_upto_region 5 with fail
      go_cut [7, 8] from 33 to 43 (fun u7 u8 wx => u7 = .bool true ∧ u8 = .int .i64 0 ∧ Hid (Only None' w1 wx))
      case first =>
        have H1 : ∀ w', Only None' wx w' → CellsR w' X1 putO.row := fun w' o => C1.out.kept (HW.out.trans o) fun e => e
        have H2 : ∀ w', Only None' wx w' → CellsR w' (X1 + 1) getO.row := fun w' o => C2.out.kept (HW.out.trans o) fun e => e
        refine r_begin (S := None') (by kernel_rfl) ?_
        have HS := Lib.hid (Only.refl None' wx)
        refine r_take 0 (putO.v) rfl (by kernel_rfl) (fun _ _ _ h => h) HS.out (YR.pure (by rfl) fun w hw => y_load24 rfl rfl (H1 w hw)) ?_
        simp only [Act.put, List.setIfInBounds_toArray, List.set_cons_zero, List.set_cons_succ]
        refine r_take 1 ((callE 201 1 putO).vv) rfl (by kernel_rfl) (fun _ _ _ h => h) HS.out (YR.call (by rfl) (fun w => y_enter [.int .i64 201, .int .i64 1, putO.v] rfl (by rfl) (call11 _) w) fun w hw => call_any w 201 1 putO) ?_
        simp only [Act.put, List.setIfInBounds_toArray, List.set_cons_zero, List.set_cons_succ]
        refine r_take 2 (getO.v) rfl (by kernel_rfl) (fun _ _ _ h => h) HS.out (YR.pure (by rfl) fun w hw => y_load24 rfl rfl (H2 w hw)) ?_
        simp only [Act.put, List.setIfInBounds_toArray, List.set_cons_zero, List.set_cons_succ]
        refine r_take 3 ((callE 202 2 getO).vv) rfl (by kernel_rfl) (fun _ _ _ h => h) HS.out (YR.call (by rfl) (fun w => y_enter [.int .i64 202, .int .i64 2, getO.v] rfl (by rfl) (call11 _) w) fun w hw => call_any w 202 2 getO) ?_
        simp only [Act.put, List.setIfInBounds_toArray, List.set_cons_zero, List.set_cons_succ]
        refine r_take 4 ((backE 202 2 false ⟨#[]⟩).vv) rfl (by kernel_rfl) (fun _ _ _ h => h) HS.out (YR.call (by rfl) (fun w => y_enter [.int .i64 202, .int .i64 2, .bool false, .string ⟨#[]⟩] rfl (by rfl) (call12 _) w) fun w hw => back_any w 202 2 false ⟨#[]⟩) ?_
        simp only [Act.put, List.setIfInBounds_toArray, List.set_cons_zero, List.set_cons_succ]
        refine r_take 5 ((backE 201 1 false ⟨#[]⟩).vv) rfl (by kernel_rfl) (fun _ _ _ h => h) HS.out (YR.call (by rfl) (fun w => y_enter [.int .i64 201, .int .i64 1, .bool false, .string ⟨#[]⟩] rfl (by rfl) (call12 _) w) fun w hw => back_any w 201 1 false ⟨#[]⟩) ?_
        simp only [Act.put, List.setIfInBounds_toArray, List.set_cons_zero, List.set_cons_succ]
        refine r_one 6 rfl (by kernel_rfl) (by rfl) fun wi oi => ?_
        refine wp_events [callE 201 1 putO, callE 202 2 getO, backE 202 2 false ⟨#[]⟩, backE 201 1 false ⟨#[]⟩] _ 4 rfl rfl (by decide) (by decide) (by rfl) fun vs wj he _ oj => ⟨HS.out.trans (oi.trans oj), ?_⟩
        simp only [Act.put, List.setIfInBounds_toArray, List.set_cons_zero, List.set_cons_succ]
        have HE := Lib.hid he
        have HSS := Lib.hid (HS.out.trans (oi.trans oj))
        clear he oi oj
        refine r_one 7 rfl (by kernel_rfl) (by rfl) fun wk ok => ?_
        refine wp_enter (y_enter [vs] rfl (by rfl) (call10 _) wk) ((check_lit (b := true) (n := 0) (HE.out.only ok fun _ _ e => e) (by decide) (by decide) (by kernel_rfl)).mono ?_)
        rintro e wl ⟨rfl, ol⟩
        refine ⟨_, rfl, HSS.out.trans (ok.trans ol), ?_⟩
        simp only [Act.put, List.setIfInBounds_toArray, List.set_cons_zero, List.set_cons_succ]
        have HT := Lib.hid (HSS.out.trans (ok.trans ol))
        clear HE HSS HS ok ol
        have HS := HT
        refine r_take 8 (.tuple #[.bool true, .int .i64 0]) rfl (by kernel_rfl) (fun _ _ _ h => h) HS.out (YR.pure (by rfl) fun w hw => y_move w rfl rfl) ?_
        simp only [Act.put, List.setIfInBounds_toArray, List.set_cons_zero, List.set_cons_succ]
        refine r_take 9 (.bool true) rfl (by kernel_rfl) (fun _ _ _ h => h) HS.out (YR.pure (by rfl) fun w hw => y_ext0 w rfl rfl) ?_
        simp only [Act.put, List.setIfInBounds_toArray, List.set_cons_zero, List.set_cons_succ]
        refine r_take 10 (.int .i64 0) rfl (by kernel_rfl) (fun _ _ _ h => h) HS.out (YR.pure (by rfl) fun w hw => y_ext1 w rfl rfl) ?_
        simp only [Act.put, List.setIfInBounds_toArray, List.set_cons_zero, List.set_cons_succ]
        refine r_take 11 (.bool true) rfl (by kernel_rfl) (fun _ _ _ h => h) HS.out (YR.pure (by rfl) fun w hw => y_assign w rfl rfl) ?_
        simp only [Act.put, List.setIfInBounds_toArray, List.set_cons_zero, List.set_cons_succ]
        refine r_take 12 (.int .i64 0) rfl (by kernel_rfl) (fun _ _ _ h => h) HS.out (YR.pure (by rfl) fun w hw => y_assign w rfl rfl) ?_
        simp only [Act.put, List.setIfInBounds_toArray, List.set_cons_zero, List.set_cons_succ]
        refine r_done (by kernel_rfl) fun wz oz => ?_
        have HZ := Lib.hid (HS.out.trans oz)
        clear HS oz
        go_wp2_with fail
        go_meet
        exact ⟨rfl, rfl, Lib.hid (HW.out.trans HZ.out)⟩
      case rest =>
        obtain ⟨rfl, rfl, HW⟩ := hcut
        rename World => wx
        go_wp2_with fail
        go_ret
        exact ⟨rfl, O1.out.trans HW.out⟩
end Go.Proofs.Ytajbagdgjbihjaa
