/- LinearNames (3): the walk. -/
import Derived.Test.YtajbagdgjbihjaaMA
namespace Go.Proofs.Ytajbagdgjbihjaa
open Go.RowKit Go.Maps
set_option linter.unusedVariables false

def rawE (cl id k : Int) : Ev := ⟨cl, id, 0, true, 0, ⟨#[]⟩, ⟨#[]⟩, ⟨#[]⟩, false, k, false, ⟨#[]⟩⟩
structure HSt (w wr : World) (hv : Value) (l : List Ev) : Prop where
  only : Only None' w wr
  row : Vec wr 12 hv l.length (l.flatMap Ev.row)
  new : ∀ g, hv.ownBlock = some g → w.heap.size ≤ g
theorem HSt.new_ {w wr w1 : World} {hv : Value} {l : List Ev} (h : HSt w wr hv l) (o : Only None' wr w1) : HSt w w1 hv l := ⟨h.only.trans o, h.row.only o fun _ _ e => e, h.new⟩
theorem HSt.app {w w2 w3 : World} {hv v' : Value} {l l2 : List Ev} (h : HSt w w2 hv l) (h3 : Vec w3 12 v' (l ++ l2).length ((l ++ l2).flatMap Ev.row)) (hg : w2.grownBy w3 hv.ownBlock) (hf : ∀ k, v'.ownBlock = some k → hv.ownBlock = some k ∨ w2.heap.size ≤ k) : HSt w w3 v' (l ++ l2) := by
  have o : Only (fun q => hv.ownBlock = some q) w2 w3 := (Only.refl _ w2).grown hg fun k hk => hk
  refine ⟨h.only.trans2 o fun q hq e => absurd hq (by have := h.new q e; omega), h3, fun g hg' => ?_⟩
  rcases hf g hg' with e | e
  · exact h.new g e
  · have := h.only.size; omega
def evs (j : Nat) : List Ev := (List.range j).map fun (i : Nat) => callE (300 + (i : Int)) 1 putO
theorem evs_next (j : Nat) : evs (j + 1) = evs j ++ [callE (300 + (j : Int)) 1 putO] := by
  unfold evs
  rw [List.range_succ, List.map_append]; rfl
theorem evs_len (j : Nat) : (evs j).length = j := by simp [evs]
def ex3 : List Ev := [callE 400 1 getO, callE 401 1 getO, backE 401 1 true ⟨#[49]⟩]
theorem ops1 : opsOf ((evs 14 ++ ex3).take 1) = some [⟨300, 1, 0, -1, putO, Rs.zero⟩] := by kernel_rfl
set_option maxRecDepth 20000 in
set_option maxHeartbeats 4000000 in
theorem names_walk (w : World) : Calls Try.prog 3 #[] w fun e w' => e = .returned (.bool true) ∧ Below w.heap.size w w' := by
  go_enter Try.func3, Try.ntmps3
  go_wp2_with fail
  refine (works_any _).mono ?_
  rintro e w0 ⟨rfl, o0⟩
  have O0 := Lib.hid o0
  clear o0
  go_upto_region 5 with fail
  generalize hX1 : w0.heap.size = X1
  generalize hw1 : (w0.alloc (.cells #[.int .u8 2, .string ⟨#[107]⟩, .string ⟨#[49]⟩, .string ⟨#[]⟩, .bool false] 24)).alloc (.cells #[.int .u8 1, .string ⟨#[107]⟩, .string ⟨#[]⟩, .string ⟨#[]⟩, .bool false] 24) = w1
  have o1 : Only None' w0 w1 := by rw [← hw1]; exact ((Only.refl None' w0).alloc _).alloc _
  have c1 : CellsR w1 X1 putO.row := by
    rw [← hw1, ← hX1]
    exact (cells_new w0 putO.row 24).kept ((Only.refl None' _).alloc _) fun e => e
  have c2 : CellsR w1 (X1 + 1) getO.row := by
    rw [← hw1, ← hX1]
    have := cells_new (w0.alloc (.cells #[.int .u8 2, .string ⟨#[107]⟩, .string ⟨#[49]⟩, .string ⟨#[]⟩, .bool false] 24)) getO.row 24
    have e : (w0.alloc (.cells #[.int .u8 2, .string ⟨#[107]⟩, .string ⟨#[49]⟩, .string ⟨#[]⟩, .bool false] 24)).heap.size = w0.heap.size + 1 := by simp
    rwa [e] at this
  have C1 := Lib.hid c1
  have C2 := Lib.hid c2
  have O1 := Lib.hid (O0.out.trans o1)
  have HW := Lib.hid (Only.refl None' w1)
  clear c1 c2 o1 hw1 hX1 O0
  go_cut [3, 4] from 43 to 55 (fun u3 u4 wx => u3 = .bool false ∧ u4 = .int .i64 0 ∧ Hid (Only None' w1 wx))
  case first =>
    have H1 : ∀ w', Only None' w1 w' → CellsR w' X1 putO.row := fun w' o => C1.out.kept (HW.out.trans o) fun e => e
    have H2 : ∀ w', Only None' w1 w' → CellsR w' (X1 + 1) getO.row := fun w' o => C2.out.kept (HW.out.trans o) fun e => e
    refine r_begin (S := None') (by kernel_rfl) ?_
    have HS : Hid (Only None' w1 w1) := Lib.hid (Only.refl _ _)
    have HN : Hid (Only None' w1 w1) := Lib.hid (Only.refl _ _)
    refine r_take 0 ((putO).v) rfl (by kernel_rfl) (fun _ _ _ h => h) HS.out (YR.pure (by rfl) fun w hw => y_load24 rfl rfl (H1 w hw)) ?_
    simp only [Act.put, List.setIfInBounds_toArray, List.set_cons_zero, List.set_cons_succ]
    refine r_take 1 ((callE 201 1 putO).vv) rfl (by kernel_rfl) (fun _ _ _ h => h) HS.out (YR.call (by rfl) (fun w => y_enter [.int .i64 201, .int .i64 1, putO.v] rfl (by rfl) (call11 _) w) fun w hw => call_any w 201 1 putO) ?_
    simp only [Act.put, List.setIfInBounds_toArray, List.set_cons_zero, List.set_cons_succ]
    refine r_take 2 ((getO).v) rfl (by kernel_rfl) (fun _ _ _ h => h) HS.out (YR.pure (by rfl) fun w hw => y_load24 rfl rfl (H2 w hw)) ?_
    simp only [Act.put, List.setIfInBounds_toArray, List.set_cons_zero, List.set_cons_succ]
    refine r_take 3 ((callE 202 1 getO).vv) rfl (by kernel_rfl) (fun _ _ _ h => h) HS.out (YR.call (by rfl) (fun w => y_enter [.int .i64 202, .int .i64 1, getO.v] rfl (by rfl) (call11 _) w) fun w hw => call_any w 202 1 getO) ?_
    simp only [Act.put, List.setIfInBounds_toArray, List.set_cons_zero, List.set_cons_succ]
    refine r_take 4 ((backE 202 1 true ⟨#[49]⟩).vv) rfl (by kernel_rfl) (fun _ _ _ h => h) HS.out (YR.call (by rfl) (fun w => y_enter [.int .i64 202, .int .i64 1, .bool true, .string ⟨#[49]⟩] rfl (by rfl) (call12 _) w) fun w hw => back_any w 202 1 true ⟨#[49]⟩) ?_
    simp only [Act.put, List.setIfInBounds_toArray, List.set_cons_zero, List.set_cons_succ]
    refine r_take 5 ((getO).v) rfl (by kernel_rfl) (fun _ _ _ h => h) HS.out (YR.pure (by rfl) fun w hw => y_load24 rfl rfl (H2 w hw)) ?_
    simp only [Act.put, List.setIfInBounds_toArray, List.set_cons_zero, List.set_cons_succ]
    refine r_take 6 ((callE 202 2 getO).vv) rfl (by kernel_rfl) (fun _ _ _ h => h) HS.out (YR.call (by rfl) (fun w => y_enter [.int .i64 202, .int .i64 2, getO.v] rfl (by rfl) (call11 _) w) fun w hw => call_any w 202 2 getO) ?_
    simp only [Act.put, List.setIfInBounds_toArray, List.set_cons_zero, List.set_cons_succ]
    refine r_take 7 ((backE 202 2 false ⟨#[]⟩).vv) rfl (by kernel_rfl) (fun _ _ _ h => h) HS.out (YR.call (by rfl) (fun w => y_enter [.int .i64 202, .int .i64 2, .bool false, .string ⟨#[]⟩] rfl (by rfl) (call12 _) w) fun w hw => back_any w 202 2 false ⟨#[]⟩) ?_
    simp only [Act.put, List.setIfInBounds_toArray, List.set_cons_zero, List.set_cons_succ]
    refine r_one 8 rfl (by kernel_rfl) (by rfl) fun wi oi => ?_
    refine wp_events [callE 201 1 putO, callE 202 1 getO, backE 202 1 true ⟨#[49]⟩, callE 202 2 getO, backE 202 2 false ⟨#[]⟩] _ 5 rfl rfl (by first | decide | simp) (by first | decide | simp) (by rfl) fun vs wj he _ oj => ?_
    have HT := Lib.hid (HN.out.trans (oi.trans oj))
    refine ⟨HS.out.quiet (oi.trans oj), ?_⟩
    have HSS := Lib.hid (HS.out.quiet (oi.trans oj))
    simp only [Act.put, List.setIfInBounds_toArray, List.set_cons_zero, List.set_cons_succ]
    clear HN
    have HN := HT
    clear HS
    have HS := HSS
    have HE := Lib.hid he
    clear he oi oj
    refine r_one 9 rfl (by kernel_rfl) (by rfl) fun wi oi => ?_
    refine wp_enter (y_enter [vs] rfl (by rfl) (call10 _) wi) ((check_lit (b := false) (n := 0) (HE.out.only oi fun _ _ e => e) (by decide) (by decide) (by kernel_rfl)).mono ?_)
    rintro e wl ⟨rfl, ol⟩
    refine ⟨_, rfl, ?_⟩
    have HT := Lib.hid (HN.out.trans (oi.trans ol))
    refine ⟨HS.out.quiet (oi.trans ol), ?_⟩
    have HSS := Lib.hid (HS.out.quiet (oi.trans ol))
    simp only [Act.put, List.setIfInBounds_toArray, List.set_cons_zero, List.set_cons_succ]
    clear HN
    have HN := HT
    clear HS
    have HS := HSS
    clear oi ol
    refine r_take 10 (.tuple #[.bool false, .int .i64 0]) rfl (by kernel_rfl) (fun _ _ _ h => h) HS.out (YR.pure (by rfl) fun w hw => y_move w rfl rfl) ?_
    simp only [Act.put, List.setIfInBounds_toArray, List.set_cons_zero, List.set_cons_succ]
    refine r_take 11 (.bool false) rfl (by kernel_rfl) (fun _ _ _ h => h) HS.out (YR.pure (by rfl) fun w hw => y_ext0 w rfl rfl) ?_
    simp only [Act.put, List.setIfInBounds_toArray, List.set_cons_zero, List.set_cons_succ]
    refine r_take 12 (.int .i64 0) rfl (by kernel_rfl) (fun _ _ _ h => h) HS.out (YR.pure (by rfl) fun w hw => y_ext1 w rfl rfl) ?_
    simp only [Act.put, List.setIfInBounds_toArray, List.set_cons_zero, List.set_cons_succ]
    refine r_take 13 (.bool false) rfl (by kernel_rfl) (fun _ _ _ h => h) HS.out (YR.pure (by rfl) fun w hw => y_assign w rfl rfl) ?_
    simp only [Act.put, List.setIfInBounds_toArray, List.set_cons_zero, List.set_cons_succ]
    refine r_take 14 (.int .i64 0) rfl (by kernel_rfl) (fun _ _ _ h => h) HS.out (YR.pure (by rfl) fun w hw => y_assign w rfl rfl) ?_
    simp only [Act.put, List.setIfInBounds_toArray, List.set_cons_zero, List.set_cons_succ]
    refine r_done (by kernel_rfl) fun wz oz => ?_
    have HZ := Lib.hid (HN.out.trans oz)
    clear HS HN oz
    go_wp2_with fail
    go_meet
    exact ⟨rfl, rfl, Lib.hid (HW.out.trans HZ.out)⟩
  case rest =>
    obtain ⟨rfl, rfl, HW⟩ := hcut
    rename World => wx
    go_upto_region 6 with fail
    go_cut [5, 6] from 56 to 68 (fun u5 u6 wx => u5 = .bool true ∧ u6 = .int .i64 0 ∧ Hid (Only None' w1 wx))
    case first =>
      have H1 : ∀ w', Only None' wx w' → CellsR w' X1 putO.row := fun w' o => C1.out.kept (HW.out.trans o) fun e => e
      have H2 : ∀ w', Only None' wx w' → CellsR w' (X1 + 1) getO.row := fun w' o => C2.out.kept (HW.out.trans o) fun e => e
      refine r_begin (S := None') (by kernel_rfl) ?_
      have HS : Hid (Only None' wx wx) := Lib.hid (Only.refl _ _)
      have HN : Hid (Only None' wx wx) := Lib.hid (Only.refl _ _)
      refine r_take 0 ((putO).v) rfl (by kernel_rfl) (fun _ _ _ h => h) HS.out (YR.pure (by rfl) fun w hw => y_load24 rfl rfl (H1 w hw)) ?_
      simp only [Act.put, List.setIfInBounds_toArray, List.set_cons_zero, List.set_cons_succ]
      refine r_take 1 ((callE 201 1 putO).vv) rfl (by kernel_rfl) (fun _ _ _ h => h) HS.out (YR.call (by rfl) (fun w => y_enter [.int .i64 201, .int .i64 1, putO.v] rfl (by rfl) (call11 _) w) fun w hw => call_any w 201 1 putO) ?_
      simp only [Act.put, List.setIfInBounds_toArray, List.set_cons_zero, List.set_cons_succ]
      refine r_take 2 ((getO).v) rfl (by kernel_rfl) (fun _ _ _ h => h) HS.out (YR.pure (by rfl) fun w hw => y_load24 rfl rfl (H2 w hw)) ?_
      simp only [Act.put, List.setIfInBounds_toArray, List.set_cons_zero, List.set_cons_succ]
      refine r_take 3 ((callE 202 1 getO).vv) rfl (by kernel_rfl) (fun _ _ _ h => h) HS.out (YR.call (by rfl) (fun w => y_enter [.int .i64 202, .int .i64 1, getO.v] rfl (by rfl) (call11 _) w) fun w hw => call_any w 202 1 getO) ?_
      simp only [Act.put, List.setIfInBounds_toArray, List.set_cons_zero, List.set_cons_succ]
      refine r_take 4 ((backE 202 1 false ⟨#[]⟩).vv) rfl (by kernel_rfl) (fun _ _ _ h => h) HS.out (YR.call (by rfl) (fun w => y_enter [.int .i64 202, .int .i64 1, .bool false, .string ⟨#[]⟩] rfl (by rfl) (call12 _) w) fun w hw => back_any w 202 1 false ⟨#[]⟩) ?_
      simp only [Act.put, List.setIfInBounds_toArray, List.set_cons_zero, List.set_cons_succ]
      refine r_take 5 ((getO).v) rfl (by kernel_rfl) (fun _ _ _ h => h) HS.out (YR.pure (by rfl) fun w hw => y_load24 rfl rfl (H2 w hw)) ?_
      simp only [Act.put, List.setIfInBounds_toArray, List.set_cons_zero, List.set_cons_succ]
      refine r_take 6 ((callE 202 2 getO).vv) rfl (by kernel_rfl) (fun _ _ _ h => h) HS.out (YR.call (by rfl) (fun w => y_enter [.int .i64 202, .int .i64 2, getO.v] rfl (by rfl) (call11 _) w) fun w hw => call_any w 202 2 getO) ?_
      simp only [Act.put, List.setIfInBounds_toArray, List.set_cons_zero, List.set_cons_succ]
      refine r_take 7 ((backE 202 2 true ⟨#[49]⟩).vv) rfl (by kernel_rfl) (fun _ _ _ h => h) HS.out (YR.call (by rfl) (fun w => y_enter [.int .i64 202, .int .i64 2, .bool true, .string ⟨#[49]⟩] rfl (by rfl) (call12 _) w) fun w hw => back_any w 202 2 true ⟨#[49]⟩) ?_
      simp only [Act.put, List.setIfInBounds_toArray, List.set_cons_zero, List.set_cons_succ]
      refine r_one 8 rfl (by kernel_rfl) (by rfl) fun wi oi => ?_
      refine wp_events [callE 201 1 putO, callE 202 1 getO, backE 202 1 false ⟨#[]⟩, callE 202 2 getO, backE 202 2 true ⟨#[49]⟩] _ 5 rfl rfl (by first | decide | simp) (by first | decide | simp) (by rfl) fun vs wj he _ oj => ?_
      have HT := Lib.hid (HN.out.trans (oi.trans oj))
      refine ⟨HS.out.quiet (oi.trans oj), ?_⟩
      have HSS := Lib.hid (HS.out.quiet (oi.trans oj))
      simp only [Act.put, List.setIfInBounds_toArray, List.set_cons_zero, List.set_cons_succ]
      clear HN
      have HN := HT
      clear HS
      have HS := HSS
      have HE := Lib.hid he
      clear he oi oj
      refine r_one 9 rfl (by kernel_rfl) (by rfl) fun wi oi => ?_
      refine wp_enter (y_enter [vs] rfl (by rfl) (call10 _) wi) ((check_lit (b := true) (n := 0) (HE.out.only oi fun _ _ e => e) (by decide) (by decide) (by kernel_rfl)).mono ?_)
      rintro e wl ⟨rfl, ol⟩
      refine ⟨_, rfl, ?_⟩
      have HT := Lib.hid (HN.out.trans (oi.trans ol))
      refine ⟨HS.out.quiet (oi.trans ol), ?_⟩
      have HSS := Lib.hid (HS.out.quiet (oi.trans ol))
      simp only [Act.put, List.setIfInBounds_toArray, List.set_cons_zero, List.set_cons_succ]
      clear HN
      have HN := HT
      clear HS
      have HS := HSS
      clear oi ol
      refine r_take 10 (.tuple #[.bool true, .int .i64 0]) rfl (by kernel_rfl) (fun _ _ _ h => h) HS.out (YR.pure (by rfl) fun w hw => y_move w rfl rfl) ?_
      simp only [Act.put, List.setIfInBounds_toArray, List.set_cons_zero, List.set_cons_succ]
      refine r_take 11 (.bool true) rfl (by kernel_rfl) (fun _ _ _ h => h) HS.out (YR.pure (by rfl) fun w hw => y_ext0 w rfl rfl) ?_
      simp only [Act.put, List.setIfInBounds_toArray, List.set_cons_zero, List.set_cons_succ]
      refine r_take 12 (.int .i64 0) rfl (by kernel_rfl) (fun _ _ _ h => h) HS.out (YR.pure (by rfl) fun w hw => y_ext1 w rfl rfl) ?_
      simp only [Act.put, List.setIfInBounds_toArray, List.set_cons_zero, List.set_cons_succ]
      refine r_take 13 (.bool true) rfl (by kernel_rfl) (fun _ _ _ h => h) HS.out (YR.pure (by rfl) fun w hw => y_assign w rfl rfl) ?_
      simp only [Act.put, List.setIfInBounds_toArray, List.set_cons_zero, List.set_cons_succ]
      refine r_take 14 (.int .i64 0) rfl (by kernel_rfl) (fun _ _ _ h => h) HS.out (YR.pure (by rfl) fun w hw => y_assign w rfl rfl) ?_
      simp only [Act.put, List.setIfInBounds_toArray, List.set_cons_zero, List.set_cons_succ]
      refine r_done (by kernel_rfl) fun wz oz => ?_
      have HZ := Lib.hid (HN.out.trans oz)
      clear HS HN oz
      go_wp2_with fail
      go_meet
      exact ⟨rfl, rfl, Lib.hid (HW.out.trans HZ.out)⟩
    case rest =>
      obtain ⟨rfl, rfl, HW⟩ := hcut
      rename World => wx
      go_upto_region 7 with fail
      go_cut [7, 8] from 69 to 74 (fun u7 u8 wx => u7 = .bool false ∧ u8 = .int .i64 4 ∧ Hid (Only None' w1 wx))
      case first =>
        have H1 : ∀ w', Only None' wx w' → CellsR w' X1 putO.row := fun w' o => C1.out.kept (HW.out.trans o) fun e => e
        have H2 : ∀ w', Only None' wx w' → CellsR w' (X1 + 1) getO.row := fun w' o => C2.out.kept (HW.out.trans o) fun e => e
        refine p_begin ?_
        have HS : Hid (Only None' wx wx) := Lib.hid (Only.refl _ _)
        have HN : Hid (Only None' wx wx) := Lib.hid (Only.refl _ _)
        refine p_take 0 ((backE 201 1 false ⟨#[]⟩).vv) rfl (YR.call (by rfl) (fun w => y_enter [.int .i64 201, .int .i64 1, .bool false, .string ⟨#[]⟩] rfl (by rfl) (call12 _) w) fun w hw => back_any w 201 1 false ⟨#[]⟩) ?_
        simp only [Act.put, List.setIfInBounds_toArray, List.set_cons_zero, List.set_cons_succ]
        refine p_one 1 rfl (by rfl) fun wi oi => ?_
        refine wp_events [backE 201 1 false ⟨#[]⟩] _ 1 rfl rfl (by first | decide | simp) (by first | decide | simp) (by rfl) fun vs wj he _ oj => ?_
        have HT := Lib.hid (HN.out.trans (oi.trans oj))
        simp only [Act.put, List.setIfInBounds_toArray, List.set_cons_zero, List.set_cons_succ]
        clear HN
        have HN := HT
        have HE := Lib.hid he
        clear he oi oj
        refine p_one 2 rfl (by rfl) fun wi oi => ?_
        refine wp_enter (y_enter [vs] rfl (by rfl) (call10 _) wi) ((check_lit (b := false) (n := 4) (HE.out.only oi fun _ _ e => e) (by decide) (by decide) (by kernel_rfl)).mono ?_)
        rintro e wl ⟨rfl, ol⟩
        refine ⟨_, rfl, ?_⟩
        have HT := Lib.hid (HN.out.trans (oi.trans ol))
        simp only [Act.put, List.setIfInBounds_toArray, List.set_cons_zero, List.set_cons_succ]
        clear HN
        have HN := HT
        clear oi ol
        refine p_take 3 (.tuple #[.bool false, .int .i64 4]) rfl (YR.pure (by rfl) fun w hw => y_move w rfl rfl) ?_
        simp only [Act.put, List.setIfInBounds_toArray, List.set_cons_zero, List.set_cons_succ]
        refine p_take 4 (.bool false) rfl (YR.pure (by rfl) fun w hw => y_ext0 w rfl rfl) ?_
        simp only [Act.put, List.setIfInBounds_toArray, List.set_cons_zero, List.set_cons_succ]
        refine p_take 5 (.int .i64 4) rfl (YR.pure (by rfl) fun w hw => y_ext1 w rfl rfl) ?_
        simp only [Act.put, List.setIfInBounds_toArray, List.set_cons_zero, List.set_cons_succ]
        refine p_take 6 (.bool false) rfl (YR.pure (by rfl) fun w hw => y_assign w rfl rfl) ?_
        simp only [Act.put, List.setIfInBounds_toArray, List.set_cons_zero, List.set_cons_succ]
        refine p_take 7 (.int .i64 4) rfl (YR.pure (by rfl) fun w hw => y_assign w rfl rfl) ?_
        simp only [Act.put, List.setIfInBounds_toArray, List.set_cons_zero, List.set_cons_succ]
        refine p_done fun wz oz => ?_
        have HZ := Lib.hid (HN.out.trans oz)
        clear HS HN oz
        go_wp2_with fail
        go_meet
        exact ⟨rfl, rfl, Lib.hid (HW.out.trans HZ.out)⟩
      case rest =>
        obtain ⟨rfl, rfl, HW⟩ := hcut
        rename World => wx
        go_upto_region 8 with fail
        go_cut [9, 10] from 75 to 83 (fun u9 u10 wx => u9 = .bool false ∧ u10 = .int .i64 4 ∧ Hid (Only None' w1 wx))
        case first =>
          have H1 : ∀ w', Only None' wx w' → CellsR w' X1 putO.row := fun w' o => C1.out.kept (HW.out.trans o) fun e => e
          have H2 : ∀ w', Only None' wx w' → CellsR w' (X1 + 1) getO.row := fun w' o => C2.out.kept (HW.out.trans o) fun e => e
          refine p_begin ?_
          have HS : Hid (Only None' wx wx) := Lib.hid (Only.refl _ _)
          have HN : Hid (Only None' wx wx) := Lib.hid (Only.refl _ _)
          refine p_take 0 ((putO).v) rfl (YR.pure (by rfl) fun w hw => y_load24 rfl rfl (H1 w hw)) ?_
          simp only [Act.put, List.setIfInBounds_toArray, List.set_cons_zero, List.set_cons_succ]
          refine p_take 1 ((callE 201 1 putO).vv) rfl (YR.call (by rfl) (fun w => y_enter [.int .i64 201, .int .i64 1, putO.v] rfl (by rfl) (call11 _) w) fun w hw => call_any w 201 1 putO) ?_
          simp only [Act.put, List.setIfInBounds_toArray, List.set_cons_zero, List.set_cons_succ]
          refine p_take 2 ((backE 201 1 false ⟨#[]⟩).vv) rfl (YR.call (by rfl) (fun w => y_enter [.int .i64 201, .int .i64 1, .bool false, .string ⟨#[]⟩] rfl (by rfl) (call12 _) w) fun w hw => back_any w 201 1 false ⟨#[]⟩) ?_
          simp only [Act.put, List.setIfInBounds_toArray, List.set_cons_zero, List.set_cons_succ]
          refine p_take 3 ((backE 201 1 false ⟨#[]⟩).vv) rfl (YR.call (by rfl) (fun w => y_enter [.int .i64 201, .int .i64 1, .bool false, .string ⟨#[]⟩] rfl (by rfl) (call12 _) w) fun w hw => back_any w 201 1 false ⟨#[]⟩) ?_
          simp only [Act.put, List.setIfInBounds_toArray, List.set_cons_zero, List.set_cons_succ]
          refine p_one 4 rfl (by rfl) fun wi oi => ?_
          refine wp_events [callE 201 1 putO, backE 201 1 false ⟨#[]⟩, backE 201 1 false ⟨#[]⟩] _ 3 rfl rfl (by first | decide | simp) (by first | decide | simp) (by rfl) fun vs wj he _ oj => ?_
          have HT := Lib.hid (HN.out.trans (oi.trans oj))
          simp only [Act.put, List.setIfInBounds_toArray, List.set_cons_zero, List.set_cons_succ]
          clear HN
          have HN := HT
          have HE := Lib.hid he
          clear he oi oj
          refine p_one 5 rfl (by rfl) fun wi oi => ?_
          refine wp_enter (y_enter [vs] rfl (by rfl) (call10 _) wi) ((check_lit (b := false) (n := 4) (HE.out.only oi fun _ _ e => e) (by decide) (by decide) (by kernel_rfl)).mono ?_)
          rintro e wl ⟨rfl, ol⟩
          refine ⟨_, rfl, ?_⟩
          have HT := Lib.hid (HN.out.trans (oi.trans ol))
          simp only [Act.put, List.setIfInBounds_toArray, List.set_cons_zero, List.set_cons_succ]
          clear HN
          have HN := HT
          clear oi ol
          refine p_take 6 (.tuple #[.bool false, .int .i64 4]) rfl (YR.pure (by rfl) fun w hw => y_move w rfl rfl) ?_
          simp only [Act.put, List.setIfInBounds_toArray, List.set_cons_zero, List.set_cons_succ]
          refine p_take 7 (.bool false) rfl (YR.pure (by rfl) fun w hw => y_ext0 w rfl rfl) ?_
          simp only [Act.put, List.setIfInBounds_toArray, List.set_cons_zero, List.set_cons_succ]
          refine p_take 8 (.int .i64 4) rfl (YR.pure (by rfl) fun w hw => y_ext1 w rfl rfl) ?_
          simp only [Act.put, List.setIfInBounds_toArray, List.set_cons_zero, List.set_cons_succ]
          refine p_take 9 (.bool false) rfl (YR.pure (by rfl) fun w hw => y_assign w rfl rfl) ?_
          simp only [Act.put, List.setIfInBounds_toArray, List.set_cons_zero, List.set_cons_succ]
          refine p_take 10 (.int .i64 4) rfl (YR.pure (by rfl) fun w hw => y_assign w rfl rfl) ?_
          simp only [Act.put, List.setIfInBounds_toArray, List.set_cons_zero, List.set_cons_succ]
          refine p_done fun wz oz => ?_
          have HZ := Lib.hid (HN.out.trans oz)
          clear HS HN oz
          go_wp2_with fail
          go_meet
          exact ⟨rfl, rfl, Lib.hid (HW.out.trans HZ.out)⟩
        case rest =>
          obtain ⟨rfl, rfl, HW⟩ := hcut
          rename World => wx
          go_upto_region 9 with fail
          go_cut [11, 12] from 84 to 93 (fun u11 u12 wx => u11 = .bool false ∧ u12 = .int .i64 4 ∧ Hid (Only None' w1 wx))
          case first =>
            have H1 : ∀ w', Only None' wx w' → CellsR w' X1 putO.row := fun w' o => C1.out.kept (HW.out.trans o) fun e => e
            have H2 : ∀ w', Only None' wx w' → CellsR w' (X1 + 1) getO.row := fun w' o => C2.out.kept (HW.out.trans o) fun e => e
            refine r_begin (S := None') (by kernel_rfl) ?_
            have HS : Hid (Only None' wx wx) := Lib.hid (Only.refl _ _)
            have HN : Hid (Only None' wx wx) := Lib.hid (Only.refl _ _)
            refine r_take 0 ((putO).v) rfl (by kernel_rfl) (fun _ _ _ h => h) HS.out (YR.pure (by rfl) fun w hw => y_load24 rfl rfl (H1 w hw)) ?_
            simp only [Act.put, List.setIfInBounds_toArray, List.set_cons_zero, List.set_cons_succ]
            refine r_take 1 ((callE 201 1 putO).vv) rfl (by kernel_rfl) (fun _ _ _ h => h) HS.out (YR.call (by rfl) (fun w => y_enter [.int .i64 201, .int .i64 1, putO.v] rfl (by rfl) (call11 _) w) fun w hw => call_any w 201 1 putO) ?_
            simp only [Act.put, List.setIfInBounds_toArray, List.set_cons_zero, List.set_cons_succ]
            refine r_take 2 ((putO).v) rfl (by kernel_rfl) (fun _ _ _ h => h) HS.out (YR.pure (by rfl) fun w hw => y_load24 rfl rfl (H1 w hw)) ?_
            simp only [Act.put, List.setIfInBounds_toArray, List.set_cons_zero, List.set_cons_succ]
            refine r_take 3 ((callE 201 2 putO).vv) rfl (by kernel_rfl) (fun _ _ _ h => h) HS.out (YR.call (by rfl) (fun w => y_enter [.int .i64 201, .int .i64 2, putO.v] rfl (by rfl) (call11 _) w) fun w hw => call_any w 201 2 putO) ?_
            simp only [Act.put, List.setIfInBounds_toArray, List.set_cons_zero, List.set_cons_succ]
            refine r_take 4 ((backE 201 1 false ⟨#[]⟩).vv) rfl (by kernel_rfl) (fun _ _ _ h => h) HS.out (YR.call (by rfl) (fun w => y_enter [.int .i64 201, .int .i64 1, .bool false, .string ⟨#[]⟩] rfl (by rfl) (call12 _) w) fun w hw => back_any w 201 1 false ⟨#[]⟩) ?_
            simp only [Act.put, List.setIfInBounds_toArray, List.set_cons_zero, List.set_cons_succ]
            refine r_one 5 rfl (by kernel_rfl) (by rfl) fun wi oi => ?_
            refine wp_events [callE 201 1 putO, callE 201 2 putO, backE 201 1 false ⟨#[]⟩] _ 3 rfl rfl (by first | decide | simp) (by first | decide | simp) (by rfl) fun vs wj he _ oj => ?_
            have HT := Lib.hid (HN.out.trans (oi.trans oj))
            refine ⟨HS.out.quiet (oi.trans oj), ?_⟩
            have HSS := Lib.hid (HS.out.quiet (oi.trans oj))
            simp only [Act.put, List.setIfInBounds_toArray, List.set_cons_zero, List.set_cons_succ]
            clear HN
            have HN := HT
            clear HS
            have HS := HSS
            have HE := Lib.hid he
            clear he oi oj
            refine r_one 6 rfl (by kernel_rfl) (by rfl) fun wi oi => ?_
            refine wp_enter (y_enter [vs] rfl (by rfl) (call10 _) wi) ((check_lit (b := false) (n := 4) (HE.out.only oi fun _ _ e => e) (by decide) (by decide) (by kernel_rfl)).mono ?_)
            rintro e wl ⟨rfl, ol⟩
            refine ⟨_, rfl, ?_⟩
            have HT := Lib.hid (HN.out.trans (oi.trans ol))
            refine ⟨HS.out.quiet (oi.trans ol), ?_⟩
            have HSS := Lib.hid (HS.out.quiet (oi.trans ol))
            simp only [Act.put, List.setIfInBounds_toArray, List.set_cons_zero, List.set_cons_succ]
            clear HN
            have HN := HT
            clear HS
            have HS := HSS
            clear oi ol
            refine r_take 7 (.tuple #[.bool false, .int .i64 4]) rfl (by kernel_rfl) (fun _ _ _ h => h) HS.out (YR.pure (by rfl) fun w hw => y_move w rfl rfl) ?_
            simp only [Act.put, List.setIfInBounds_toArray, List.set_cons_zero, List.set_cons_succ]
            refine r_take 8 (.bool false) rfl (by kernel_rfl) (fun _ _ _ h => h) HS.out (YR.pure (by rfl) fun w hw => y_ext0 w rfl rfl) ?_
            simp only [Act.put, List.setIfInBounds_toArray, List.set_cons_zero, List.set_cons_succ]
            refine r_take 9 (.int .i64 4) rfl (by kernel_rfl) (fun _ _ _ h => h) HS.out (YR.pure (by rfl) fun w hw => y_ext1 w rfl rfl) ?_
            simp only [Act.put, List.setIfInBounds_toArray, List.set_cons_zero, List.set_cons_succ]
            refine r_take 10 (.bool false) rfl (by kernel_rfl) (fun _ _ _ h => h) HS.out (YR.pure (by rfl) fun w hw => y_assign w rfl rfl) ?_
            simp only [Act.put, List.setIfInBounds_toArray, List.set_cons_zero, List.set_cons_succ]
            refine r_take 11 (.int .i64 4) rfl (by kernel_rfl) (fun _ _ _ h => h) HS.out (YR.pure (by rfl) fun w hw => y_assign w rfl rfl) ?_
            simp only [Act.put, List.setIfInBounds_toArray, List.set_cons_zero, List.set_cons_succ]
            refine r_done (by kernel_rfl) fun wz oz => ?_
            have HZ := Lib.hid (HN.out.trans oz)
            clear HS HN oz
            go_wp2_with fail
            go_meet
            exact ⟨rfl, rfl, Lib.hid (HW.out.trans HZ.out)⟩
          case rest =>
            obtain ⟨rfl, rfl, HW⟩ := hcut
            rename World => wx
            go_upto_region 10 with fail
            go_cut [13, 14] from 94 to 102 (fun u13 u14 wx => u13 = .bool false ∧ u14 = .int .i64 4 ∧ Hid (Only None' w1 wx))
            case first =>
              have H1 : ∀ w', Only None' wx w' → CellsR w' X1 putO.row := fun w' o => C1.out.kept (HW.out.trans o) fun e => e
              have H2 : ∀ w', Only None' wx w' → CellsR w' (X1 + 1) getO.row := fun w' o => C2.out.kept (HW.out.trans o) fun e => e
              refine r_begin (S := None') (by kernel_rfl) ?_
              have HS : Hid (Only None' wx wx) := Lib.hid (Only.refl _ _)
              have HN : Hid (Only None' wx wx) := Lib.hid (Only.refl _ _)
              refine r_take 0 ((putO).v) rfl (by kernel_rfl) (fun _ _ _ h => h) HS.out (YR.pure (by rfl) fun w hw => y_load24 rfl rfl (H1 w hw)) ?_
              simp only [Act.put, List.setIfInBounds_toArray, List.set_cons_zero, List.set_cons_succ]
              refine r_take 1 ((callE 201 1 putO).vv) rfl (by kernel_rfl) (fun _ _ _ h => h) HS.out (YR.call (by rfl) (fun w => y_enter [.int .i64 201, .int .i64 1, putO.v] rfl (by rfl) (call11 _) w) fun w hw => call_any w 201 1 putO) ?_
              simp only [Act.put, List.setIfInBounds_toArray, List.set_cons_zero, List.set_cons_succ]
              refine r_take 2 ((putO).v) rfl (by kernel_rfl) (fun _ _ _ h => h) HS.out (YR.pure (by rfl) fun w hw => y_load24 rfl rfl (H1 w hw)) ?_
              simp only [Act.put, List.setIfInBounds_toArray, List.set_cons_zero, List.set_cons_succ]
              refine r_take 3 ((callE 201 1 putO).vv) rfl (by kernel_rfl) (fun _ _ _ h => h) HS.out (YR.call (by rfl) (fun w => y_enter [.int .i64 201, .int .i64 1, putO.v] rfl (by rfl) (call11 _) w) fun w hw => call_any w 201 1 putO) ?_
              simp only [Act.put, List.setIfInBounds_toArray, List.set_cons_zero, List.set_cons_succ]
              refine r_one 4 rfl (by kernel_rfl) (by rfl) fun wi oi => ?_
              refine wp_events [callE 201 1 putO, callE 201 1 putO] _ 2 rfl rfl (by first | decide | simp) (by first | decide | simp) (by rfl) fun vs wj he _ oj => ?_
              have HT := Lib.hid (HN.out.trans (oi.trans oj))
              refine ⟨HS.out.quiet (oi.trans oj), ?_⟩
              have HSS := Lib.hid (HS.out.quiet (oi.trans oj))
              simp only [Act.put, List.setIfInBounds_toArray, List.set_cons_zero, List.set_cons_succ]
              clear HN
              have HN := HT
              clear HS
              have HS := HSS
              have HE := Lib.hid he
              clear he oi oj
              refine r_one 5 rfl (by kernel_rfl) (by rfl) fun wi oi => ?_
              refine wp_enter (y_enter [vs] rfl (by rfl) (call10 _) wi) ((check_lit (b := false) (n := 4) (HE.out.only oi fun _ _ e => e) (by decide) (by decide) (by kernel_rfl)).mono ?_)
              rintro e wl ⟨rfl, ol⟩
              refine ⟨_, rfl, ?_⟩
              have HT := Lib.hid (HN.out.trans (oi.trans ol))
              refine ⟨HS.out.quiet (oi.trans ol), ?_⟩
              have HSS := Lib.hid (HS.out.quiet (oi.trans ol))
              simp only [Act.put, List.setIfInBounds_toArray, List.set_cons_zero, List.set_cons_succ]
              clear HN
              have HN := HT
              clear HS
              have HS := HSS
              clear oi ol
              refine r_take 6 (.tuple #[.bool false, .int .i64 4]) rfl (by kernel_rfl) (fun _ _ _ h => h) HS.out (YR.pure (by rfl) fun w hw => y_move w rfl rfl) ?_
              simp only [Act.put, List.setIfInBounds_toArray, List.set_cons_zero, List.set_cons_succ]
              refine r_take 7 (.bool false) rfl (by kernel_rfl) (fun _ _ _ h => h) HS.out (YR.pure (by rfl) fun w hw => y_ext0 w rfl rfl) ?_
              simp only [Act.put, List.setIfInBounds_toArray, List.set_cons_zero, List.set_cons_succ]
              refine r_take 8 (.int .i64 4) rfl (by kernel_rfl) (fun _ _ _ h => h) HS.out (YR.pure (by rfl) fun w hw => y_ext1 w rfl rfl) ?_
              simp only [Act.put, List.setIfInBounds_toArray, List.set_cons_zero, List.set_cons_succ]
              refine r_take 9 (.bool false) rfl (by kernel_rfl) (fun _ _ _ h => h) HS.out (YR.pure (by rfl) fun w hw => y_assign w rfl rfl) ?_
              simp only [Act.put, List.setIfInBounds_toArray, List.set_cons_zero, List.set_cons_succ]
              refine r_take 10 (.int .i64 4) rfl (by kernel_rfl) (fun _ _ _ h => h) HS.out (YR.pure (by rfl) fun w hw => y_assign w rfl rfl) ?_
              simp only [Act.put, List.setIfInBounds_toArray, List.set_cons_zero, List.set_cons_succ]
              refine r_done (by kernel_rfl) fun wz oz => ?_
              have HZ := Lib.hid (HN.out.trans oz)
              clear HS HN oz
              go_wp2_with fail
              go_meet
              exact ⟨rfl, rfl, Lib.hid (HW.out.trans HZ.out)⟩
            case rest =>
              obtain ⟨rfl, rfl, HW⟩ := hcut
              rename World => wx
              go_upto_region 11 with fail
              go_cut [15, 16] from 103 to 110 (fun u15 u16 wx => u15 = .bool false ∧ u16 = .int .i64 4 ∧ Hid (Only None' w1 wx))
              case first =>
                have H1 : ∀ w', Only None' wx w' → CellsR w' X1 putO.row := fun w' o => C1.out.kept (HW.out.trans o) fun e => e
                have H2 : ∀ w', Only None' wx w' → CellsR w' (X1 + 1) getO.row := fun w' o => C2.out.kept (HW.out.trans o) fun e => e
                refine p_begin ?_
                have HS : Hid (Only None' wx wx) := Lib.hid (Only.refl _ _)
                have HN : Hid (Only None' wx wx) := Lib.hid (Only.refl _ _)
                refine p_take 0 ((putO).v) rfl (YR.pure (by rfl) fun w hw => y_load24 rfl rfl (H1 w hw)) ?_
                simp only [Act.put, List.setIfInBounds_toArray, List.set_cons_zero, List.set_cons_succ]
                refine p_take 1 ((callE 201 1 putO).vv) rfl (YR.call (by rfl) (fun w => y_enter [.int .i64 201, .int .i64 1, putO.v] rfl (by rfl) (call11 _) w) fun w hw => call_any w 201 1 putO) ?_
                simp only [Act.put, List.setIfInBounds_toArray, List.set_cons_zero, List.set_cons_succ]
                refine p_take 2 ((rawE 201 1 0).vv) rfl (YR.pure (by rfl) fun w hw => y_build31 w (rawE 201 1 0) rfl (by rfl) (by kernel_rfl)) ?_
                simp only [Act.put, List.setIfInBounds_toArray, List.set_cons_zero, List.set_cons_succ]
                refine p_one 3 rfl (by rfl) fun wi oi => ?_
                refine wp_events [callE 201 1 putO, rawE 201 1 0] _ 2 rfl rfl (by first | decide | simp) (by first | decide | simp) (by rfl) fun vs wj he _ oj => ?_
                have HT := Lib.hid (HN.out.trans (oi.trans oj))
                simp only [Act.put, List.setIfInBounds_toArray, List.set_cons_zero, List.set_cons_succ]
                clear HN
                have HN := HT
                have HE := Lib.hid he
                clear he oi oj
                refine p_one 4 rfl (by rfl) fun wi oi => ?_
                refine wp_enter (y_enter [vs] rfl (by rfl) (call10 _) wi) ((check_lit (b := false) (n := 4) (HE.out.only oi fun _ _ e => e) (by decide) (by decide) (by kernel_rfl)).mono ?_)
                rintro e wl ⟨rfl, ol⟩
                refine ⟨_, rfl, ?_⟩
                have HT := Lib.hid (HN.out.trans (oi.trans ol))
                simp only [Act.put, List.setIfInBounds_toArray, List.set_cons_zero, List.set_cons_succ]
                clear HN
                have HN := HT
                clear oi ol
                refine p_take 5 (.tuple #[.bool false, .int .i64 4]) rfl (YR.pure (by rfl) fun w hw => y_move w rfl rfl) ?_
                simp only [Act.put, List.setIfInBounds_toArray, List.set_cons_zero, List.set_cons_succ]
                refine p_take 6 (.bool false) rfl (YR.pure (by rfl) fun w hw => y_ext0 w rfl rfl) ?_
                simp only [Act.put, List.setIfInBounds_toArray, List.set_cons_zero, List.set_cons_succ]
                refine p_take 7 (.int .i64 4) rfl (YR.pure (by rfl) fun w hw => y_ext1 w rfl rfl) ?_
                simp only [Act.put, List.setIfInBounds_toArray, List.set_cons_zero, List.set_cons_succ]
                refine p_take 8 (.bool false) rfl (YR.pure (by rfl) fun w hw => y_assign w rfl rfl) ?_
                simp only [Act.put, List.setIfInBounds_toArray, List.set_cons_zero, List.set_cons_succ]
                refine p_take 9 (.int .i64 4) rfl (YR.pure (by rfl) fun w hw => y_assign w rfl rfl) ?_
                simp only [Act.put, List.setIfInBounds_toArray, List.set_cons_zero, List.set_cons_succ]
                refine p_done fun wz oz => ?_
                have HZ := Lib.hid (HN.out.trans oz)
                clear HS HN oz
                go_wp2_with fail
                go_meet
                exact ⟨rfl, rfl, Lib.hid (HW.out.trans HZ.out)⟩
              case rest =>
                obtain ⟨rfl, rfl, HW⟩ := hcut
                rename World => wx
                go_wp2_with fail
                go_loopw [17, 18] (fun u17 u18 wr => ∃ j : Nat, j ≤ 14 ∧ u18 = .int .i64 (j : Int) ∧ Hid (HSt w1 wr u17 (evs j))) (fun u17 u18 wr => 14 - (intOf u18).toNat)
                case atStart => exact ⟨0, by omega, rfl, Lib.hid ⟨HW.out, Vec.nil _ _, fun g hg => by cases hg⟩⟩
                case round =>
                  obtain ⟨j, hj, rfl, HJ⟩ := hrel
                  by_cases hlt : j < 14
                  · have j0 : (0 : Int) ≤ (j : Int) := by omega
                    have j1 : (j : Int) < 14 := by omega
                    have HLT := Lib.hid hlt
                    have hwr : IntKind.i64.wrap (300 + (j : Int)) = 300 + (j : Int) := by rw [IntKind.wrap_i64]; omega
                    have HWR := Lib.hid hwr
                    have H1 : ∀ w', Only None' wr w' → CellsR w' X1 putO.row := fun w' o => C1.out.kept (HJ.out.only.trans o) fun e => e
                    clear hlt hj hwr
                    go_upto_region 18 with fail
                    refine p_begin ?_
                    have HS : Hid (Only None' wr wr) := Lib.hid (Only.refl _ _)
                    have HN : Hid (Only None' wr wr) := Lib.hid (Only.refl _ _)
                    refine p_take 0 (u17) rfl (YR.pure (by rfl) fun w hw => y_move w rfl rfl) ?_
                    simp only [Act.put, List.setIfInBounds_toArray, List.set_cons_zero, List.set_cons_succ]
                    refine p_take 1 (.int .i64 (j : Int)) rfl (YR.pure (by rfl) fun w hw => y_move w rfl rfl) ?_
                    simp only [Act.put, List.setIfInBounds_toArray, List.set_cons_zero, List.set_cons_succ]
                    refine p_take 2 (.int .i64 (300 + (j : Int))) rfl (YR.pure (by rfl) fun w hw => y_add w rfl rfl rfl rfl HWR.out) ?_
                    simp only [Act.put, List.setIfInBounds_toArray, List.set_cons_zero, List.set_cons_succ]
                    refine p_take 3 ((putO).v) rfl (YR.pure (by rfl) fun w hw => y_load24 rfl rfl (H1 w hw)) ?_
                    simp only [Act.put, List.setIfInBounds_toArray, List.set_cons_zero, List.set_cons_succ]
                    refine p_take 4 ((callE (300 + (j : Int)) 1 putO).vv) rfl (YR.call (by rfl) (fun w => y_enter [.int .i64 (300 + (j : Int)), .int .i64 1, putO.v] rfl (by rfl) (call11 _) w) fun w hw => call_any w (300 + (j : Int)) 1 putO) ?_
                    simp only [Act.put, List.setIfInBounds_toArray, List.set_cons_zero, List.set_cons_succ]
                    refine p_one 5 rfl (by rfl) fun wi oi => ?_
                    refine wp_events [callE (300 + (j : Int)) 1 putO] _ 1 rfl rfl (by first | decide | simp) (by first | decide | simp) (by rfl) fun vs wj he _ oj => ?_
                    have HT := Lib.hid (HN.out.trans (oi.trans oj))
                    simp only [Act.put, List.setIfInBounds_toArray, List.set_cons_zero, List.set_cons_succ]
                    clear HN
                    have HN := HT
                    have HE := Lib.hid he
                    clear he oi oj
                    refine p_one 6 rfl (by rfl) fun wi oi => ?_
                    refine wp_append_ev (l := evs j) (l2 := [callE (300 + (j : Int)) 1 putO]) rfl rfl rfl (HJ.out.new_ (HN.out.trans oi)).row (HE.out.only oi fun _ _ e => e) (by first | decide | (rw [evs_len]; simp; omega)) fun v5 w5 hv5 hg5 hf5 => ?_
                    have HJ5 := Lib.hid ((HJ.out.new_ (HN.out.trans oi)).app hv5 hg5 hf5)
                    simp only [Act.put, List.setIfInBounds_toArray, List.set_cons_zero, List.set_cons_succ]
                    clear hv5 hg5 hf5 oi
                    refine p_take 7 (v5) rfl (YR.pure (by rfl) fun w hw => y_assign w rfl rfl) ?_
                    simp only [Act.put, List.setIfInBounds_toArray, List.set_cons_zero, List.set_cons_succ]
                    refine p_done fun wz oz => ?_
                    have HJ6 := Lib.hid (HJ5.out.new_ oz)
                    clear HS HN oz HJ5
                    go_wp2_with fail
                    go_roundw
                    case rel => exact ⟨j + 1, by have := HLT.out; omega, by first | exact next_int (by have := HLT.out; omega) | rfl, Lib.hid (by rw [evs_next]; exact HJ6.out)⟩
                    case measure =>
                      have := HLT.out
                      first | exact meas HLT.out (by omega) | (simp only [intOf]; omega)
                  · obtain rfl : j = 14 := by omega
                    clear hlt hj HW
                    rename World => wr
                    obtain ⟨ga, ca, hsh, _, _⟩ := HJ.out.row.shape
                    rw [evs_len] at hsh
                    obtain rfl := hsh
                    have HSX : ∀ q, (Value.slice ga 14 ca).ownBlock = some q → q ≠ X1 ∧ q ≠ X1 + 1 := fun q hq => by
                      have h1 := HJ.out.new q hq
                      have h2 := C2.out.lt
                      omega
                    go_upto_region 19 with fail
                    go_cut [17] from 147 to 154 (fun u17 wx => Hid (HSt w1 wx u17 (evs 14 ++ ex3)))
                    case first =>
                      have H2 : ∀ w', Only (fun q => (Value.slice ga 14 ca).ownBlock = some q) wr w' → CellsR w' (X1 + 1) getO.row := fun w' o => (C2.out.kept HJ.out.only fun e => e).kept o fun e => (HSX _ e).2 rfl
                      refine r_begin (S := (fun q => (Value.slice ga 14 ca).ownBlock = some q)) (by kernel_rfl) ?_
                      have HS : Hid (Only (fun q => (Value.slice ga 14 ca).ownBlock = some q) wr wr) := Lib.hid (Only.refl _ _)
                      have HN : Hid (Only None' wr wr) := Lib.hid (Only.refl _ _)
                      refine r_take 0 (.slice ga 14 ca) rfl (by kernel_rfl) (fun _ _ _ h => h) HS.out (YR.pure (by rfl) fun w hw => y_move w rfl rfl) ?_
                      simp only [Act.put, List.setIfInBounds_toArray, List.set_cons_zero, List.set_cons_succ]
                      refine r_take 1 ((getO).v) rfl (by kernel_rfl) (fun _ _ _ h => h) HS.out (YR.pure (by rfl) fun w hw => y_load24 rfl rfl (H2 w hw)) ?_
                      simp only [Act.put, List.setIfInBounds_toArray, List.set_cons_zero, List.set_cons_succ]
                      refine r_take 2 ((callE 400 1 getO).vv) rfl (by kernel_rfl) (fun _ _ _ h => h) HS.out (YR.call (by rfl) (fun w => y_enter [.int .i64 400, .int .i64 1, getO.v] rfl (by rfl) (call11 _) w) fun w hw => call_any w 400 1 getO) ?_
                      simp only [Act.put, List.setIfInBounds_toArray, List.set_cons_zero, List.set_cons_succ]
                      refine r_take 3 ((getO).v) rfl (by kernel_rfl) (fun _ _ _ h => h) HS.out (YR.pure (by rfl) fun w hw => y_load24 rfl rfl (H2 w hw)) ?_
                      simp only [Act.put, List.setIfInBounds_toArray, List.set_cons_zero, List.set_cons_succ]
                      refine r_take 4 ((callE 401 1 getO).vv) rfl (by kernel_rfl) (fun _ _ _ h => h) HS.out (YR.call (by rfl) (fun w => y_enter [.int .i64 401, .int .i64 1, getO.v] rfl (by rfl) (call11 _) w) fun w hw => call_any w 401 1 getO) ?_
                      simp only [Act.put, List.setIfInBounds_toArray, List.set_cons_zero, List.set_cons_succ]
                      refine r_take 5 ((backE 401 1 true ⟨#[49]⟩).vv) rfl (by kernel_rfl) (fun _ _ _ h => h) HS.out (YR.call (by rfl) (fun w => y_enter [.int .i64 401, .int .i64 1, .bool true, .string ⟨#[49]⟩] rfl (by rfl) (call12 _) w) fun w hw => back_any w 401 1 true ⟨#[49]⟩) ?_
                      simp only [Act.put, List.setIfInBounds_toArray, List.set_cons_zero, List.set_cons_succ]
                      refine r_one 6 rfl (by kernel_rfl) (by rfl) fun wi oi => ?_
                      refine wp_events [callE 400 1 getO, callE 401 1 getO, backE 401 1 true ⟨#[49]⟩] _ 3 rfl rfl (by first | decide | simp) (by first | decide | simp) (by rfl) fun vs wj he _ oj => ?_
                      have HT := Lib.hid (HN.out.trans (oi.trans oj))
                      refine ⟨HS.out.quiet (oi.trans oj), ?_⟩
                      have HSS := Lib.hid (HS.out.quiet (oi.trans oj))
                      simp only [Act.put, List.setIfInBounds_toArray, List.set_cons_zero, List.set_cons_succ]
                      clear HN
                      have HN := HT
                      clear HS
                      have HS := HSS
                      have HE := Lib.hid he
                      clear he oi oj
                      refine r_one 7 rfl (by kernel_rfl) (by rfl) fun wi oi => ?_
                      refine wp_append_ev (l := evs 14) (l2 := ex3) rfl rfl rfl (HJ.out.new_ (HN.out.trans oi)).row (HE.out.only oi fun _ _ e => e) (by first | decide | (rw [evs_len]; simp; omega)) fun v5 w5 hv5 hg5 hf5 => ?_
                      have HJ5 := Lib.hid ((HJ.out.new_ (HN.out.trans oi)).app hv5 hg5 hf5)
                      have HS5 := Lib.hid ((HS.out.quiet oi).grown hg5 fun k hk => hk)
                      refine ⟨HS5.out, ?_⟩
                      simp only [Act.put, List.setIfInBounds_toArray, List.set_cons_zero, List.set_cons_succ]
                      clear HS
                      have HS := HS5
                      clear hv5 hg5 hf5 oi
                      refine r_take 8 (v5) rfl (by kernel_rfl) (fun _ _ _ h => h) HS.out (YR.pure (by rfl) fun w hw => y_assign w rfl rfl) ?_
                      simp only [Act.put, List.setIfInBounds_toArray, List.set_cons_zero, List.set_cons_succ]
                      refine r_done (by kernel_rfl) fun wz oz => ?_
                      have HJ6 := Lib.hid (HJ5.out.new_ oz)
                      clear HS HN oz HJ5
                      go_wp2_with fail
                      go_meet
                      exact HJ6
                    case rest =>
                      rename World => wx
                      have HJ := Lib.hid hcut.out
                      obtain ⟨hg, ho, hc, hsh, hc1, hc2, _⟩ := HJ.out.row.at_ (by decide)
                      obtain rfl := hsh
                      have HR : ∀ w', Only None' wx w' → ER w' (.slice (some ⟨hg, ho, none⟩) (evs 14 ++ ex3).length hc) (evs 14 ++ ex3) := fun w' o => er_vec (HJ.out.new_ o).row
                      have HW := Lib.hid HJ.out.only
                      have HC : Hid ((evs 14 ++ ex3).length ≤ hc) := Lib.hid hc1
                      have elen : (evs 14 ++ ex3).length = 17 := rfl
                      rw [elen] at HR HC ⊢
                      clear hcut hc1 hc2 elen HSX
                      go_upto_region 20 with fail
                      go_cut [19, 20] from 155 to 160 (fun u19 u20 wq => u19 = .bool true ∧ u20 = .int .i64 0 ∧ Hid (Only None' wx wq))
                      case first =>
                        refine p_begin ?_
                        have HS : Hid (Only None' wx wx) := Lib.hid (Only.refl _ _)
                        have HN : Hid (Only None' wx wx) := Lib.hid (Only.refl _ _)
                        refine p_take 0 (.slice (some ⟨hg, ho, none⟩) 17 hc) rfl (YR.pure (by rfl) fun w hw => y_move w rfl rfl) ?_
                        simp only [Act.put, List.setIfInBounds_toArray, List.set_cons_zero, List.set_cons_succ]
                        refine p_take 1 (.slice (some ⟨hg, ho, none⟩) 15 hc) rfl (YR.pure (by rfl) fun w hw => y_upto34 w rfl rfl rfl (by have := HC.out; omega)) ?_
                        simp only [Act.put, List.setIfInBounds_toArray, List.set_cons_zero, List.set_cons_succ]
                        refine p_one 2 rfl (by rfl) fun wi oi => ?_
                        refine wp_enter (y_enter [.slice (some ⟨hg, ho, none⟩) 15 hc] rfl (by rfl) (call10 _) wi) ((check_lit (b := true) (n := 0) ((er_upto (l := evs 14 ++ ex3) (k := 15) (HR _ (HN.out.trans oi)) (by decide)).2) (by decide) (by decide) (by kernel_rfl)).mono ?_)
                        rintro e wl ⟨rfl, ol⟩
                        refine ⟨_, rfl, ?_⟩
                        have HT := Lib.hid (HN.out.trans (oi.trans ol))
                        simp only [Act.put, List.setIfInBounds_toArray, List.set_cons_zero, List.set_cons_succ]
                        clear HN
                        have HN := HT
                        clear oi ol
                        refine p_take 3 (.tuple #[.bool true, .int .i64 0]) rfl (YR.pure (by rfl) fun w hw => y_move w rfl rfl) ?_
                        simp only [Act.put, List.setIfInBounds_toArray, List.set_cons_zero, List.set_cons_succ]
                        refine p_take 4 (.bool true) rfl (YR.pure (by rfl) fun w hw => y_ext0 w rfl rfl) ?_
                        simp only [Act.put, List.setIfInBounds_toArray, List.set_cons_zero, List.set_cons_succ]
                        refine p_take 5 (.int .i64 0) rfl (YR.pure (by rfl) fun w hw => y_ext1 w rfl rfl) ?_
                        simp only [Act.put, List.setIfInBounds_toArray, List.set_cons_zero, List.set_cons_succ]
                        refine p_take 6 (.bool true) rfl (YR.pure (by rfl) fun w hw => y_assign w rfl rfl) ?_
                        simp only [Act.put, List.setIfInBounds_toArray, List.set_cons_zero, List.set_cons_succ]
                        refine p_take 7 (.int .i64 0) rfl (YR.pure (by rfl) fun w hw => y_assign w rfl rfl) ?_
                        simp only [Act.put, List.setIfInBounds_toArray, List.set_cons_zero, List.set_cons_succ]
                        refine p_done fun wz oz => ?_
                        have HZ := Lib.hid (HN.out.trans oz)
                        clear HS HN oz
                        go_wp2_with fail
                        go_meet
                        exact ⟨rfl, rfl, Lib.hid (HZ.out)⟩
                      case rest =>
                        obtain ⟨rfl, rfl, HQ⟩ := hcut
                        rename World => wq
                        go_upto_region 21 with fail
                        go_cut [21, 22] from 161 to 165 (fun u21 u22 wq => u21 = .bool false ∧ u22 = .int .i64 3 ∧ Hid (Only None' wx wq))
                        case first =>
                          refine p_begin ?_
                          have HS : Hid (Only None' wq wq) := Lib.hid (Only.refl _ _)
                          have HN : Hid (Only None' wq wq) := Lib.hid (Only.refl _ _)
                          refine p_take 0 (.slice (some ⟨hg, ho, none⟩) 17 hc) rfl (YR.pure (by rfl) fun w hw => y_move w rfl rfl) ?_
                          simp only [Act.put, List.setIfInBounds_toArray, List.set_cons_zero, List.set_cons_succ]
                          refine p_one 1 rfl (by rfl) fun wi oi => ?_
                          refine wp_enter (y_enter [.slice (some ⟨hg, ho, none⟩) 17 hc] rfl (by rfl) (call10 _) wi) ((check_lit (b := false) (n := 3) (HR _ (HQ.out.trans (HN.out.trans oi))) (by decide) (by decide) (by kernel_rfl)).mono ?_)
                          rintro e wl ⟨rfl, ol⟩
                          refine ⟨_, rfl, ?_⟩
                          have HT := Lib.hid (HN.out.trans (oi.trans ol))
                          simp only [Act.put, List.setIfInBounds_toArray, List.set_cons_zero, List.set_cons_succ]
                          clear HN
                          have HN := HT
                          clear oi ol
                          refine p_take 2 (.tuple #[.bool false, .int .i64 3]) rfl (YR.pure (by rfl) fun w hw => y_move w rfl rfl) ?_
                          simp only [Act.put, List.setIfInBounds_toArray, List.set_cons_zero, List.set_cons_succ]
                          refine p_take 3 (.bool false) rfl (YR.pure (by rfl) fun w hw => y_ext0 w rfl rfl) ?_
                          simp only [Act.put, List.setIfInBounds_toArray, List.set_cons_zero, List.set_cons_succ]
                          refine p_take 4 (.int .i64 3) rfl (YR.pure (by rfl) fun w hw => y_ext1 w rfl rfl) ?_
                          simp only [Act.put, List.setIfInBounds_toArray, List.set_cons_zero, List.set_cons_succ]
                          refine p_take 5 (.bool false) rfl (YR.pure (by rfl) fun w hw => y_assign w rfl rfl) ?_
                          simp only [Act.put, List.setIfInBounds_toArray, List.set_cons_zero, List.set_cons_succ]
                          refine p_take 6 (.int .i64 3) rfl (YR.pure (by rfl) fun w hw => y_assign w rfl rfl) ?_
                          simp only [Act.put, List.setIfInBounds_toArray, List.set_cons_zero, List.set_cons_succ]
                          refine p_done fun wz oz => ?_
                          have HZ := Lib.hid (HN.out.trans oz)
                          clear HS HN oz
                          go_wp2_with fail
                          go_meet
                          exact ⟨rfl, rfl, Lib.hid (HQ.out.trans HZ.out)⟩
                        case rest =>
                          obtain ⟨rfl, rfl, HQ⟩ := hcut
                          rename World => wq
                          go_upto_region 24 with fail
                          generalize hX3 : wq.heap.size = X3
                          generalize hw3 : (wq.alloc (.cells #[.int .i64 201, .int .i64 1, .int .i64 0, .bool true, .int .u8 0, .string ⟨#[]⟩, .string ⟨#[]⟩, .string ⟨#[]⟩, .bool false, .int .u8 3, .bool false, .string ⟨#[]⟩] 31)).alloc (.cells #[.int .i64 201, .int .i64 1, .int .i64 0, .bool true, .int .u8 0, .string ⟨#[]⟩, .string ⟨#[]⟩, .string ⟨#[]⟩, .bool false, .int .u8 2, .bool false, .string ⟨#[]⟩] 31) = w3
                          have o3 : Only None' wq w3 := by rw [← hw3]; exact ((Only.refl None' wq).alloc _).alloc _
                          have c3 : CellsR w3 X3 (rawE 201 1 3).row := by
                            rw [← hw3, ← hX3]
                            exact (cells_new wq (rawE 201 1 3).row 31).kept ((Only.refl None' _).alloc _) fun e => e
                          have c4 : CellsR w3 (X3 + 1) (rawE 201 1 2).row := by
                            rw [← hw3, ← hX3]
                            have := cells_new (wq.alloc (.cells #[.int .i64 201, .int .i64 1, .int .i64 0, .bool true, .int .u8 0, .string ⟨#[]⟩, .string ⟨#[]⟩, .string ⟨#[]⟩, .bool false, .int .u8 3, .bool false, .string ⟨#[]⟩] 31)) (rawE 201 1 2).row 31
                            have e : (wq.alloc (.cells #[.int .i64 201, .int .i64 1, .int .i64 0, .bool true, .int .u8 0, .string ⟨#[]⟩, .string ⟨#[]⟩, .string ⟨#[]⟩, .bool false, .int .u8 3, .bool false, .string ⟨#[]⟩] 31)).heap.size = wq.heap.size + 1 := by simp
                            rwa [e] at this
                          have C3 := Lib.hid c3
                          have C4 := Lib.hid c4
                          have HW3 := Lib.hid (HQ.out.trans o3)
                          have HW := Lib.hid (Only.refl None' w3)
                          clear c3 c4 o3 hw3 hX3
                          go_cut [25, 26] from 170 to 180 (fun u25 u26 wx3 => u25 = .bool false ∧ u26 = .int .i64 0 ∧ Hid (Only None' w3 wx3))
                          case first =>
                            have H1 : ∀ w', Only None' w3 w' → CellsR w' X1 putO.row := fun w' o => C1.out.kept (HJ.out.only.trans (HW3.out.trans (HW.out.trans o))) fun e => e
                            have H2 : ∀ w', Only None' w3 w' → CellsR w' (X1 + 1) getO.row := fun w' o => C2.out.kept (HJ.out.only.trans (HW3.out.trans (HW.out.trans o))) fun e => e
                            have H3 : ∀ w', Only None' w3 w' → CellsR w' X3 (rawE 201 1 3).row := fun w' o => C3.out.kept (HW.out.trans o) fun e => e
                            have H4 : ∀ w', Only None' w3 w' → CellsR w' (X3 + 1) (rawE 201 1 2).row := fun w' o => C4.out.kept (HW.out.trans o) fun e => e
                            refine r_begin (S := None') (by kernel_rfl) ?_
                            have HS : Hid (Only None' w3 w3) := Lib.hid (Only.refl _ _)
                            have HN : Hid (Only None' w3 w3) := Lib.hid (Only.refl _ _)
                            refine r_take 0 ((putO).v) rfl (by kernel_rfl) (fun _ _ _ h => h) HS.out (YR.pure (by rfl) fun w hw => y_load24 rfl rfl (H1 w hw)) ?_
                            simp only [Act.put, List.setIfInBounds_toArray, List.set_cons_zero, List.set_cons_succ]
                            refine r_take 1 ((callE 201 1 putO).vv) rfl (by kernel_rfl) (fun _ _ _ h => h) HS.out (YR.call (by rfl) (fun w => y_enter [.int .i64 201, .int .i64 1, putO.v] rfl (by rfl) (call11 _) w) fun w hw => call_any w 201 1 putO) ?_
                            simp only [Act.put, List.setIfInBounds_toArray, List.set_cons_zero, List.set_cons_succ]
                            refine r_take 2 ((rawE 201 1 3).vv) rfl (by kernel_rfl) (fun _ _ _ h => h) HS.out (YR.pure (by rfl) fun w hw => y_load31 rfl rfl (H3 w hw)) ?_
                            simp only [Act.put, List.setIfInBounds_toArray, List.set_cons_zero, List.set_cons_succ]
                            refine r_take 3 ((getO).v) rfl (by kernel_rfl) (fun _ _ _ h => h) HS.out (YR.pure (by rfl) fun w hw => y_load24 rfl rfl (H2 w hw)) ?_
                            simp only [Act.put, List.setIfInBounds_toArray, List.set_cons_zero, List.set_cons_succ]
                            refine r_take 4 ((callE 201 2 getO).vv) rfl (by kernel_rfl) (fun _ _ _ h => h) HS.out (YR.call (by rfl) (fun w => y_enter [.int .i64 201, .int .i64 2, getO.v] rfl (by rfl) (call11 _) w) fun w hw => call_any w 201 2 getO) ?_
                            simp only [Act.put, List.setIfInBounds_toArray, List.set_cons_zero, List.set_cons_succ]
                            refine r_take 5 ((backE 201 2 true ⟨#[49]⟩).vv) rfl (by kernel_rfl) (fun _ _ _ h => h) HS.out (YR.call (by rfl) (fun w => y_enter [.int .i64 201, .int .i64 2, .bool true, .string ⟨#[49]⟩] rfl (by rfl) (call12 _) w) fun w hw => back_any w 201 2 true ⟨#[49]⟩) ?_
                            simp only [Act.put, List.setIfInBounds_toArray, List.set_cons_zero, List.set_cons_succ]
                            refine r_one 6 rfl (by kernel_rfl) (by rfl) fun wi oi => ?_
                            refine wp_events [callE 201 1 putO, rawE 201 1 3, callE 201 2 getO, backE 201 2 true ⟨#[49]⟩] _ 4 rfl rfl (by first | decide | simp) (by first | decide | simp) (by rfl) fun vs wj he _ oj => ?_
                            have HT := Lib.hid (HN.out.trans (oi.trans oj))
                            refine ⟨HS.out.quiet (oi.trans oj), ?_⟩
                            have HSS := Lib.hid (HS.out.quiet (oi.trans oj))
                            simp only [Act.put, List.setIfInBounds_toArray, List.set_cons_zero, List.set_cons_succ]
                            clear HN
                            have HN := HT
                            clear HS
                            have HS := HSS
                            have HE := Lib.hid he
                            clear he oi oj
                            refine r_one 7 rfl (by kernel_rfl) (by rfl) fun wi oi => ?_
                            refine wp_enter (y_enter [vs] rfl (by rfl) (call10 _) wi) ((check_lit (b := false) (n := 0) (HE.out.only oi fun _ _ e => e) (by decide) (by decide) (by kernel_rfl)).mono ?_)
                            rintro e wl ⟨rfl, ol⟩
                            refine ⟨_, rfl, ?_⟩
                            have HT := Lib.hid (HN.out.trans (oi.trans ol))
                            refine ⟨HS.out.quiet (oi.trans ol), ?_⟩
                            have HSS := Lib.hid (HS.out.quiet (oi.trans ol))
                            simp only [Act.put, List.setIfInBounds_toArray, List.set_cons_zero, List.set_cons_succ]
                            clear HN
                            have HN := HT
                            clear HS
                            have HS := HSS
                            clear oi ol
                            refine r_take 8 (.tuple #[.bool false, .int .i64 0]) rfl (by kernel_rfl) (fun _ _ _ h => h) HS.out (YR.pure (by rfl) fun w hw => y_move w rfl rfl) ?_
                            simp only [Act.put, List.setIfInBounds_toArray, List.set_cons_zero, List.set_cons_succ]
                            refine r_take 9 (.bool false) rfl (by kernel_rfl) (fun _ _ _ h => h) HS.out (YR.pure (by rfl) fun w hw => y_ext0 w rfl rfl) ?_
                            simp only [Act.put, List.setIfInBounds_toArray, List.set_cons_zero, List.set_cons_succ]
                            refine r_take 10 (.int .i64 0) rfl (by kernel_rfl) (fun _ _ _ h => h) HS.out (YR.pure (by rfl) fun w hw => y_ext1 w rfl rfl) ?_
                            simp only [Act.put, List.setIfInBounds_toArray, List.set_cons_zero, List.set_cons_succ]
                            refine r_take 11 (.bool false) rfl (by kernel_rfl) (fun _ _ _ h => h) HS.out (YR.pure (by rfl) fun w hw => y_assign w rfl rfl) ?_
                            simp only [Act.put, List.setIfInBounds_toArray, List.set_cons_zero, List.set_cons_succ]
                            refine r_take 12 (.int .i64 0) rfl (by kernel_rfl) (fun _ _ _ h => h) HS.out (YR.pure (by rfl) fun w hw => y_assign w rfl rfl) ?_
                            simp only [Act.put, List.setIfInBounds_toArray, List.set_cons_zero, List.set_cons_succ]
                            refine r_done (by kernel_rfl) fun wz oz => ?_
                            have HZ := Lib.hid (HN.out.trans oz)
                            clear HS HN oz
                            go_wp2_with fail
                            go_meet
                            exact ⟨rfl, rfl, Lib.hid (HW.out.trans HZ.out)⟩
                          case rest =>
                            obtain ⟨rfl, rfl, HW⟩ := hcut
                            rename World => wx3
                            go_upto_region 25 with fail
                            go_cut [27, 28] from 181 to 191 (fun u27 u28 wx3 => u27 = .bool true ∧ u28 = .int .i64 0 ∧ Hid (Only None' w3 wx3))
                            case first =>
                              have H1 : ∀ w', Only None' wx3 w' → CellsR w' X1 putO.row := fun w' o => C1.out.kept (HJ.out.only.trans (HW3.out.trans (HW.out.trans o))) fun e => e
                              have H2 : ∀ w', Only None' wx3 w' → CellsR w' (X1 + 1) getO.row := fun w' o => C2.out.kept (HJ.out.only.trans (HW3.out.trans (HW.out.trans o))) fun e => e
                              have H3 : ∀ w', Only None' wx3 w' → CellsR w' X3 (rawE 201 1 3).row := fun w' o => C3.out.kept (HW.out.trans o) fun e => e
                              have H4 : ∀ w', Only None' wx3 w' → CellsR w' (X3 + 1) (rawE 201 1 2).row := fun w' o => C4.out.kept (HW.out.trans o) fun e => e
                              refine r_begin (S := None') (by kernel_rfl) ?_
                              have HS : Hid (Only None' wx3 wx3) := Lib.hid (Only.refl _ _)
                              have HN : Hid (Only None' wx3 wx3) := Lib.hid (Only.refl _ _)
                              refine r_take 0 ((putO).v) rfl (by kernel_rfl) (fun _ _ _ h => h) HS.out (YR.pure (by rfl) fun w hw => y_load24 rfl rfl (H1 w hw)) ?_
                              simp only [Act.put, List.setIfInBounds_toArray, List.set_cons_zero, List.set_cons_succ]
                              refine r_take 1 ((callE 201 1 putO).vv) rfl (by kernel_rfl) (fun _ _ _ h => h) HS.out (YR.call (by rfl) (fun w => y_enter [.int .i64 201, .int .i64 1, putO.v] rfl (by rfl) (call11 _) w) fun w hw => call_any w 201 1 putO) ?_
                              simp only [Act.put, List.setIfInBounds_toArray, List.set_cons_zero, List.set_cons_succ]
                              refine r_take 2 ((rawE 201 1 2).vv) rfl (by kernel_rfl) (fun _ _ _ h => h) HS.out (YR.pure (by rfl) fun w hw => y_load31 rfl rfl (H4 w hw)) ?_
                              simp only [Act.put, List.setIfInBounds_toArray, List.set_cons_zero, List.set_cons_succ]
                              refine r_take 3 ((getO).v) rfl (by kernel_rfl) (fun _ _ _ h => h) HS.out (YR.pure (by rfl) fun w hw => y_load24 rfl rfl (H2 w hw)) ?_
                              simp only [Act.put, List.setIfInBounds_toArray, List.set_cons_zero, List.set_cons_succ]
                              refine r_take 4 ((callE 201 2 getO).vv) rfl (by kernel_rfl) (fun _ _ _ h => h) HS.out (YR.call (by rfl) (fun w => y_enter [.int .i64 201, .int .i64 2, getO.v] rfl (by rfl) (call11 _) w) fun w hw => call_any w 201 2 getO) ?_
                              simp only [Act.put, List.setIfInBounds_toArray, List.set_cons_zero, List.set_cons_succ]
                              refine r_take 5 ((backE 201 2 true ⟨#[49]⟩).vv) rfl (by kernel_rfl) (fun _ _ _ h => h) HS.out (YR.call (by rfl) (fun w => y_enter [.int .i64 201, .int .i64 2, .bool true, .string ⟨#[49]⟩] rfl (by rfl) (call12 _) w) fun w hw => back_any w 201 2 true ⟨#[49]⟩) ?_
                              simp only [Act.put, List.setIfInBounds_toArray, List.set_cons_zero, List.set_cons_succ]
                              refine r_one 6 rfl (by kernel_rfl) (by rfl) fun wi oi => ?_
                              refine wp_events [callE 201 1 putO, rawE 201 1 2, callE 201 2 getO, backE 201 2 true ⟨#[49]⟩] _ 4 rfl rfl (by first | decide | simp) (by first | decide | simp) (by rfl) fun vs wj he _ oj => ?_
                              have HT := Lib.hid (HN.out.trans (oi.trans oj))
                              refine ⟨HS.out.quiet (oi.trans oj), ?_⟩
                              have HSS := Lib.hid (HS.out.quiet (oi.trans oj))
                              simp only [Act.put, List.setIfInBounds_toArray, List.set_cons_zero, List.set_cons_succ]
                              clear HN
                              have HN := HT
                              clear HS
                              have HS := HSS
                              have HE := Lib.hid he
                              clear he oi oj
                              refine r_one 7 rfl (by kernel_rfl) (by rfl) fun wi oi => ?_
                              refine wp_enter (y_enter [vs] rfl (by rfl) (call10 _) wi) ((check_lit (b := true) (n := 0) (HE.out.only oi fun _ _ e => e) (by decide) (by decide) (by kernel_rfl)).mono ?_)
                              rintro e wl ⟨rfl, ol⟩
                              refine ⟨_, rfl, ?_⟩
                              have HT := Lib.hid (HN.out.trans (oi.trans ol))
                              refine ⟨HS.out.quiet (oi.trans ol), ?_⟩
                              have HSS := Lib.hid (HS.out.quiet (oi.trans ol))
                              simp only [Act.put, List.setIfInBounds_toArray, List.set_cons_zero, List.set_cons_succ]
                              clear HN
                              have HN := HT
                              clear HS
                              have HS := HSS
                              clear oi ol
                              refine r_take 8 (.tuple #[.bool true, .int .i64 0]) rfl (by kernel_rfl) (fun _ _ _ h => h) HS.out (YR.pure (by rfl) fun w hw => y_move w rfl rfl) ?_
                              simp only [Act.put, List.setIfInBounds_toArray, List.set_cons_zero, List.set_cons_succ]
                              refine r_take 9 (.bool true) rfl (by kernel_rfl) (fun _ _ _ h => h) HS.out (YR.pure (by rfl) fun w hw => y_ext0 w rfl rfl) ?_
                              simp only [Act.put, List.setIfInBounds_toArray, List.set_cons_zero, List.set_cons_succ]
                              refine r_take 10 (.int .i64 0) rfl (by kernel_rfl) (fun _ _ _ h => h) HS.out (YR.pure (by rfl) fun w hw => y_ext1 w rfl rfl) ?_
                              simp only [Act.put, List.setIfInBounds_toArray, List.set_cons_zero, List.set_cons_succ]
                              refine r_take 11 (.bool true) rfl (by kernel_rfl) (fun _ _ _ h => h) HS.out (YR.pure (by rfl) fun w hw => y_assign w rfl rfl) ?_
                              simp only [Act.put, List.setIfInBounds_toArray, List.set_cons_zero, List.set_cons_succ]
                              refine r_take 12 (.int .i64 0) rfl (by kernel_rfl) (fun _ _ _ h => h) HS.out (YR.pure (by rfl) fun w hw => y_assign w rfl rfl) ?_
                              simp only [Act.put, List.setIfInBounds_toArray, List.set_cons_zero, List.set_cons_succ]
                              refine r_done (by kernel_rfl) fun wz oz => ?_
                              have HZ := Lib.hid (HN.out.trans oz)
                              clear HS HN oz
                              go_wp2_with fail
                              go_meet
                              exact ⟨rfl, rfl, Lib.hid (HW.out.trans HZ.out)⟩
                            case rest =>
                              obtain ⟨rfl, rfl, HW⟩ := hcut
                              rename World => wx3
                              go_upto_region 26 with fail
                              go_cut [29, 30] from 192 to 205 (fun u29 u30 wx3 => u29 = .bool true ∧ u30 = .int .i64 0 ∧ Hid (Only None' w3 wx3))
                              case first =>
                                have H1 : ∀ w', Only None' wx3 w' → CellsR w' X1 putO.row := fun w' o => C1.out.kept (HJ.out.only.trans (HW3.out.trans (HW.out.trans o))) fun e => e
                                have H2 : ∀ w', Only None' wx3 w' → CellsR w' (X1 + 1) getO.row := fun w' o => C2.out.kept (HJ.out.only.trans (HW3.out.trans (HW.out.trans o))) fun e => e
                                have H3 : ∀ w', Only None' wx3 w' → CellsR w' X3 (rawE 201 1 3).row := fun w' o => C3.out.kept (HW.out.trans o) fun e => e
                                have H4 : ∀ w', Only None' wx3 w' → CellsR w' (X3 + 1) (rawE 201 1 2).row := fun w' o => C4.out.kept (HW.out.trans o) fun e => e
                                refine r_begin (S := None') (by kernel_rfl) ?_
                                have HS : Hid (Only None' wx3 wx3) := Lib.hid (Only.refl _ _)
                                have HN : Hid (Only None' wx3 wx3) := Lib.hid (Only.refl _ _)
                                refine r_take 0 ((putO).v) rfl (by kernel_rfl) (fun _ _ _ h => h) HS.out (YR.pure (by rfl) fun w hw => y_load24 rfl rfl (H1 w hw)) ?_
                                simp only [Act.put, List.setIfInBounds_toArray, List.set_cons_zero, List.set_cons_succ]
                                refine r_take 1 ((callE 201 1 putO).vv) rfl (by kernel_rfl) (fun _ _ _ h => h) HS.out (YR.call (by rfl) (fun w => y_enter [.int .i64 201, .int .i64 1, putO.v] rfl (by rfl) (call11 _) w) fun w hw => call_any w 201 1 putO) ?_
                                simp only [Act.put, List.setIfInBounds_toArray, List.set_cons_zero, List.set_cons_succ]
                                refine r_take 2 ((rawE 201 1 2).vv) rfl (by kernel_rfl) (fun _ _ _ h => h) HS.out (YR.pure (by rfl) fun w hw => y_load31 rfl rfl (H4 w hw)) ?_
                                simp only [Act.put, List.setIfInBounds_toArray, List.set_cons_zero, List.set_cons_succ]
                                refine r_take 3 ((getO).v) rfl (by kernel_rfl) (fun _ _ _ h => h) HS.out (YR.pure (by rfl) fun w hw => y_load24 rfl rfl (H2 w hw)) ?_
                                simp only [Act.put, List.setIfInBounds_toArray, List.set_cons_zero, List.set_cons_succ]
                                refine r_take 4 ((callE 201 2 getO).vv) rfl (by kernel_rfl) (fun _ _ _ h => h) HS.out (YR.call (by rfl) (fun w => y_enter [.int .i64 201, .int .i64 2, getO.v] rfl (by rfl) (call11 _) w) fun w hw => call_any w 201 2 getO) ?_
                                simp only [Act.put, List.setIfInBounds_toArray, List.set_cons_zero, List.set_cons_succ]
                                refine r_take 5 ((backE 201 2 false ⟨#[]⟩).vv) rfl (by kernel_rfl) (fun _ _ _ h => h) HS.out (YR.call (by rfl) (fun w => y_enter [.int .i64 201, .int .i64 2, .bool false, .string ⟨#[]⟩] rfl (by rfl) (call12 _) w) fun w hw => back_any w 201 2 false ⟨#[]⟩) ?_
                                simp only [Act.put, List.setIfInBounds_toArray, List.set_cons_zero, List.set_cons_succ]
                                refine r_take 6 ((getO).v) rfl (by kernel_rfl) (fun _ _ _ h => h) HS.out (YR.pure (by rfl) fun w hw => y_load24 rfl rfl (H2 w hw)) ?_
                                simp only [Act.put, List.setIfInBounds_toArray, List.set_cons_zero, List.set_cons_succ]
                                refine r_take 7 ((callE 201 3 getO).vv) rfl (by kernel_rfl) (fun _ _ _ h => h) HS.out (YR.call (by rfl) (fun w => y_enter [.int .i64 201, .int .i64 3, getO.v] rfl (by rfl) (call11 _) w) fun w hw => call_any w 201 3 getO) ?_
                                simp only [Act.put, List.setIfInBounds_toArray, List.set_cons_zero, List.set_cons_succ]
                                refine r_take 8 ((backE 201 3 true ⟨#[49]⟩).vv) rfl (by kernel_rfl) (fun _ _ _ h => h) HS.out (YR.call (by rfl) (fun w => y_enter [.int .i64 201, .int .i64 3, .bool true, .string ⟨#[49]⟩] rfl (by rfl) (call12 _) w) fun w hw => back_any w 201 3 true ⟨#[49]⟩) ?_
                                simp only [Act.put, List.setIfInBounds_toArray, List.set_cons_zero, List.set_cons_succ]
                                refine r_one 9 rfl (by kernel_rfl) (by rfl) fun wi oi => ?_
                                refine wp_events [callE 201 1 putO, rawE 201 1 2, callE 201 2 getO, backE 201 2 false ⟨#[]⟩, callE 201 3 getO, backE 201 3 true ⟨#[49]⟩] _ 6 rfl rfl (by first | decide | simp) (by first | decide | simp) (by rfl) fun vs wj he _ oj => ?_
                                have HT := Lib.hid (HN.out.trans (oi.trans oj))
                                refine ⟨HS.out.quiet (oi.trans oj), ?_⟩
                                have HSS := Lib.hid (HS.out.quiet (oi.trans oj))
                                simp only [Act.put, List.setIfInBounds_toArray, List.set_cons_zero, List.set_cons_succ]
                                clear HN
                                have HN := HT
                                clear HS
                                have HS := HSS
                                have HE := Lib.hid he
                                clear he oi oj
                                refine r_one 10 rfl (by kernel_rfl) (by rfl) fun wi oi => ?_
                                refine wp_enter (y_enter [vs] rfl (by rfl) (call10 _) wi) ((check_lit (b := true) (n := 0) (HE.out.only oi fun _ _ e => e) (by decide) (by decide) (by kernel_rfl)).mono ?_)
                                rintro e wl ⟨rfl, ol⟩
                                refine ⟨_, rfl, ?_⟩
                                have HT := Lib.hid (HN.out.trans (oi.trans ol))
                                refine ⟨HS.out.quiet (oi.trans ol), ?_⟩
                                have HSS := Lib.hid (HS.out.quiet (oi.trans ol))
                                simp only [Act.put, List.setIfInBounds_toArray, List.set_cons_zero, List.set_cons_succ]
                                clear HN
                                have HN := HT
                                clear HS
                                have HS := HSS
                                clear oi ol
                                refine r_take 11 (.tuple #[.bool true, .int .i64 0]) rfl (by kernel_rfl) (fun _ _ _ h => h) HS.out (YR.pure (by rfl) fun w hw => y_move w rfl rfl) ?_
                                simp only [Act.put, List.setIfInBounds_toArray, List.set_cons_zero, List.set_cons_succ]
                                refine r_take 12 (.bool true) rfl (by kernel_rfl) (fun _ _ _ h => h) HS.out (YR.pure (by rfl) fun w hw => y_ext0 w rfl rfl) ?_
                                simp only [Act.put, List.setIfInBounds_toArray, List.set_cons_zero, List.set_cons_succ]
                                refine r_take 13 (.int .i64 0) rfl (by kernel_rfl) (fun _ _ _ h => h) HS.out (YR.pure (by rfl) fun w hw => y_ext1 w rfl rfl) ?_
                                simp only [Act.put, List.setIfInBounds_toArray, List.set_cons_zero, List.set_cons_succ]
                                refine r_take 14 (.bool true) rfl (by kernel_rfl) (fun _ _ _ h => h) HS.out (YR.pure (by rfl) fun w hw => y_assign w rfl rfl) ?_
                                simp only [Act.put, List.setIfInBounds_toArray, List.set_cons_zero, List.set_cons_succ]
                                refine r_take 15 (.int .i64 0) rfl (by kernel_rfl) (fun _ _ _ h => h) HS.out (YR.pure (by rfl) fun w hw => y_assign w rfl rfl) ?_
                                simp only [Act.put, List.setIfInBounds_toArray, List.set_cons_zero, List.set_cons_succ]
                                refine r_done (by kernel_rfl) fun wz oz => ?_
                                have HZ := Lib.hid (HN.out.trans oz)
                                clear HS HN oz
                                go_wp2_with fail
                                go_meet
                                exact ⟨rfl, rfl, Lib.hid (HW.out.trans HZ.out)⟩
                              case rest =>
                                obtain ⟨rfl, rfl, HW⟩ := hcut
                                rename World => wx3
                                have ho1 := ops_any ((er_upto (l := evs 14 ++ ex3) (k := 1) (HR _ (HW3.out.trans HW.out)) (by decide)).2) (by decide) (fun e he => by
                                  have h1 : e ∈ [callE 300 1 putO] := he
                                  rw [List.mem_singleton] at h1
                                  subst h1
                                  exact ⟨by unfold Wf; decide, by unfold Wf; decide⟩)
                                have HOP := Lib.hid ho1
                                have c0 := HC.out
                                have c1 : (0 : Int) ≤ 1 := by decide
                                have c2 : (1 : Int) ≤ (hc : Int) := by omega
                                clear ho1
                                go_wp2_with fail
                                refine HOP.out.mono ?_
                                intro e w9 hend
                                obtain ⟨o9, hend⟩ := hend
                                rw [ops1] at hend
                                obtain ⟨v9, rfl, hv9, _⟩ := hend
                                obtain ⟨g9, off9, c9, rfl, hc9, _, hg9, hcell9, _⟩ := hv9.at_ (by decide)
                                have k9 := hcell9 3 (.int .i64 (-1)) rfl
                                have ek : (List.length [(⟨300, 1, 0, -1, putO, Rs.zero⟩ : Opn)]) = 1 := rfl
                                rw [ek]
                                have HO9 := Lib.hid o9
                                clear hv9 hcell9 o9 HOP
                                go_wp2_with fail
                                go_ret
                                exact ⟨rfl, (O1.out.trans (HJ.out.only.trans (HW3.out.trans (HW.out.trans HO9.out)))).below (Nat.le_refl _) fun k e => e.elim⟩
end Go.Proofs.Ytajbagdgjbihjaa
