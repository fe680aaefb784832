/- The law's call (11) and back (12). -/
import Derived.Test.YtajbagdgjbihjaaNC
import Derived.BigQuiet
namespace Go.Proofs.Ytajbagdgjbihjaa
open Go.RowKit Go.Maps
set_option linter.unusedVariables false

theorem results_c {fn : Func} {p : Tmp} {ty : TypeId} (h : fn.results = #[.cell p ty]) (tmps : Array Value) (P : Program) (w : World) :
    (results fn tmps).run P w = ((asAddr (tmps.getD p undef)).run P w).andThen fun a w₁ => (loadVar ty a).run P w₁ := by
  simp only [results, h]
  simp [Sem.run_bind, Result.andThen]
def Ev.vv (e : Ev) : Value := .agg #[.int .i64 e.client, .int .i64 e.id, .int .i64 e.step, .bool e.back, .int .u8 e.kind, .string e.key, .string e.val, .string e.old, .bool e.had, .int .u8 e.rkind, .bool e.found, .string e.rval]
def callE (cl id : Int) (o : Op5) : Ev := ⟨cl, id, 0, false, o.kind, o.key, o.val, o.old, o.had, 0, false, ⟨#[]⟩⟩
def backE (cl id : Int) (found : Bool) (v : ByteArray) : Ev := ⟨cl, id, 0, true, 0, ⟨#[]⟩, ⟨#[]⟩, ⟨#[]⟩, false, 1, found, v⟩
set_option maxRecDepth 20000 in
set_option maxHeartbeats 1000000 in
theorem call_any (w : World) (cl id : Int) (o : Op5) : Calls Try.prog 11 #[.int .i64 cl, .int .i64 id, o.v] w fun e w' => e = .returned (callE cl id o).vv ∧ Only None' w w' := by
  obtain ⟨kd, key, val, old, had⟩ := o
  unfold Op5.v callE Ev.vv
  dsimp only
  obtain ⟨P, hP⟩ : ∃ P, P = w.heap.size := ⟨_, rfl⟩
  obtain ⟨w1, hw1⟩ : ∃ w1, w1 = w.alloc (.cells #[.int .u8 kd, .string key, .string val, .string old, .bool had] 24) := ⟨_, rfl⟩
  have cP : CellsR w1 P [.int .u8 kd, .string key, .string val, .string old, .bool had] := by rw [hw1, hP]; exact cells_new w [.int .u8 kd, .string key, .string val, .string old, .bool had] 24
  obtain ⟨Q, hQ⟩ : ∃ Q, Q = w1.heap.size := ⟨_, rfl⟩
  obtain ⟨w2, hw2⟩ : ∃ w2, w2 = w1.alloc (.cells #[.int .i64 0, .int .i64 0, .int .i64 0, .bool false, .int .u8 0, .string ⟨#[]⟩, .string ⟨#[]⟩, .string ⟨#[]⟩, .bool false, .int .u8 0, .bool false, .string ⟨#[]⟩] 31) := ⟨_, rfl⟩
  have cQ : CellsR w2 Q [.int .i64 0, .int .i64 0, .int .i64 0, .bool false, .int .u8 0, .string ⟨#[]⟩, .string ⟨#[]⟩, .string ⟨#[]⟩, .bool false, .int .u8 0, .bool false, .string ⟨#[]⟩] := by rw [hw2, hQ]; exact cells_new w1 _ 31
  have o1 : Only None' w w1 := by rw [hw1]; exact (Only.refl None' w).alloc _
  have o2 : Only None' w1 w2 := by rw [hw2]; exact (Only.refl None' w1).alloc _
  have cP2 := cP.kept o2 fun e => e
  have o3 : Only (fun q => q = Q) w2 (w2.setCells Q 0 [.int .i64 cl, .int .i64 id, .int .i64 0, .bool false, .int .u8 kd, .string key, .string val, .string old, .bool had, .int .u8 0, .bool false, .string ⟨#[]⟩]) := (Only.refl (fun q => q = Q) w2).setCells rfl _ _
  have hs := o1.size
  have O3 := Lib.hid ((o1.trans o2).fresh (by omega) o3)
  have p0 := cP2.is 0 _ rfl
  have p1 := cP2.is 1 _ rfl
  have p2 := cP2.is 2 _ rfl
  have p3 := cP2.is 3 _ rfl
  have p4 := cP2.is 4 _ rfl
  have q0 := cQ.is 0 _ rfl
  have q1 := cQ.is 1 _ rfl
  have q2 := cQ.is 2 _ rfl
  have q3 := cQ.is 3 _ rfl
  have q4 := cQ.is 4 _ rfl
  have q5 := cQ.is 5 _ rfl
  have q6 := cQ.is 6 _ rfl
  have q7 := cQ.is 7 _ rfl
  have q8 := cQ.is 8 _ rfl
  have q9 := cQ.is 9 _ rfl
  have q10 := cQ.is 10 _ rfl
  have q11 := cQ.is 11 _ rfl
  have f0 := cQ.thaw 0
  have f1 := cQ.thaw 1
  have f2 := cQ.thaw 2
  have f3 := cQ.thaw 3
  have f4 := cQ.thaw 4
  have f5 := cQ.thaw 5
  have f6 := cQ.thaw 6
  have f7 := cQ.thaw 7
  have f8 := cQ.thaw 8
  have f9 := cQ.thaw 9
  have f10 := cQ.thaw 10
  have f11 := cQ.thaw 11
  have ew1 := hw1.symm
  have ew2 := hw2.symm
  have eP := hP.symm
  have eQ := hQ.symm
  clear o1 o2 o3 hs cP cQ cP2 hw1 hw2 hP hQ
  go_enter Try.func11, Try.ntmps11
  go_wp2_with fail
  refine bodyPost_ret (v := .agg #[.int .i64 cl, .int .i64 id, .int .i64 0, .bool false, .int .u8 kd, .string key, .string val, .string old, .bool had, .int .u8 0, .bool false, .string ⟨#[]⟩]) ?_ rfl ⟨rfl, ?_⟩
  · rw [results_c rfl]
    go_simp
  · exact O3.out
set_option maxRecDepth 20000 in
set_option maxHeartbeats 1000000 in
theorem back_any (w : World) (cl id : Int) (found : Bool) (val : ByteArray) : Calls Try.prog 12 #[.int .i64 cl, .int .i64 id, .bool found, .string val] w fun e w' => e = .returned (backE cl id found val).vv ∧ Only None' w w' := by
  unfold backE Ev.vv
  dsimp only
  obtain ⟨Q, hQ⟩ : ∃ Q, Q = w.heap.size := ⟨_, rfl⟩
  obtain ⟨w2, hw2⟩ : ∃ w2, w2 = w.alloc (.cells #[.int .i64 0, .int .i64 0, .int .i64 0, .bool false, .int .u8 0, .string ⟨#[]⟩, .string ⟨#[]⟩, .string ⟨#[]⟩, .bool false, .int .u8 0, .bool false, .string ⟨#[]⟩] 31) := ⟨_, rfl⟩
  have cQ : CellsR w2 Q [.int .i64 0, .int .i64 0, .int .i64 0, .bool false, .int .u8 0, .string ⟨#[]⟩, .string ⟨#[]⟩, .string ⟨#[]⟩, .bool false, .int .u8 0, .bool false, .string ⟨#[]⟩] := by rw [hw2, hQ]; exact cells_new w _ 31
  have o2 : Only None' w w2 := by rw [hw2]; exact (Only.refl None' w).alloc _
  have o3 : Only (fun q => q = Q) w2 (w2.setCells Q 0 [.int .i64 cl, .int .i64 id, .int .i64 0, .bool true, .int .u8 0, .string ⟨#[]⟩, .string ⟨#[]⟩, .string ⟨#[]⟩, .bool false, .int .u8 1, .bool found, .string val]) := (Only.refl (fun q => q = Q) w2).setCells rfl _ _
  have O3 := Lib.hid (o2.fresh (by omega) o3)
  have q0 := cQ.is 0 _ rfl
  have q1 := cQ.is 1 _ rfl
  have q2 := cQ.is 2 _ rfl
  have q3 := cQ.is 3 _ rfl
  have q4 := cQ.is 4 _ rfl
  have q5 := cQ.is 5 _ rfl
  have q6 := cQ.is 6 _ rfl
  have q7 := cQ.is 7 _ rfl
  have q8 := cQ.is 8 _ rfl
  have q9 := cQ.is 9 _ rfl
  have q10 := cQ.is 10 _ rfl
  have q11 := cQ.is 11 _ rfl
  have f0 := cQ.thaw 0
  have f1 := cQ.thaw 1
  have f2 := cQ.thaw 2
  have f3 := cQ.thaw 3
  have f4 := cQ.thaw 4
  have f5 := cQ.thaw 5
  have f6 := cQ.thaw 6
  have f7 := cQ.thaw 7
  have f8 := cQ.thaw 8
  have f9 := cQ.thaw 9
  have f10 := cQ.thaw 10
  have f11 := cQ.thaw 11
  have ew2 := hw2.symm
  have eQ := hQ.symm
  clear o2 o3 cQ hw2 hQ
  go_enter Try.func12, Try.ntmps12
  go_wp2_with fail
  refine bodyPost_ret (v := .agg #[.int .i64 cl, .int .i64 id, .int .i64 0, .bool true, .int .u8 0, .string ⟨#[]⟩, .string ⟨#[]⟩, .string ⟨#[]⟩, .bool false, .int .u8 1, .bool found, .string val]) ?_ rfl ⟨rfl, ?_⟩
  · rw [results_c rfl]
    go_simp
  · exact O3.out
end Go.Proofs.Ytajbagdgjbihjaa
