/- U8 in one text. -/
import Derived.Test.YteoeaojebklfjaaGreatDoorWLost2
namespace Go.Proofs.YteoeaojebklfjaaGreatDoor
open Go.RowKit Go.Maps
set_option linter.unusedVariables false
set_option linter.unusedSimpArgs false
set_option maxRecDepth 20000
section
variable {w : World} {L : Lo} {lg : Value} {p : Pg}
set_option maxHeartbeats 1000000 in
theorem pread_no (h : PgAt w L lg p) (hok : p.Ok) {n : Int} (hu : p.uses n = false) : Calls Tryz.prog 20 #[.pointer (some ⟨L.P, 0, none⟩), .int .i64 n] w fun e w' => e = .returned (.tuple #[.slice none 0 0, .int .i64 1]) ∧ w = w' := by
  have HU := uses_any h hok n
  rw [hu] at HU
  have HU := Lib.hid HU
  clear h hok hu
  go_enter Tryz.func20, Tryz.ntmps20
  go_wp2_with fail
  refine HU.out.mono ?_
  rintro e w2 ⟨rfl, rfl⟩
  go_wp2_with fail
  go_ret2
  exact ⟨rfl, rfl⟩
end
section
variable {a : Act} {o : Oper} {x y z : Operand} {g off : Nat}
theorem y_load9 {w : World} {p : ByteArray} (ho : o.op = .load 9 x) (hx : a.eval x = .pointer (some ⟨g, off, none⟩)) (hc : w.cell? ⟨g, off, none⟩ = some (.string p)) : (execOp a.eval o).run Tryz.prog w = .ok (.value (.string p)) w := by
  unfold execOp
  simp only [ho, hx]
  go_simp
theorem y_load4b {w : World} {p : Bool} (ho : o.op = .load 4 x) (hx : a.eval x = .pointer (some ⟨g, off, none⟩)) (hc : w.cell? ⟨g, off, none⟩ = some (.bool p)) : (execOp a.eval o).run Tryz.prog w = .ok (.value (.bool p)) w := by
  unfold execOp
  simp only [ho, hx]
  go_simp
theorem y_len35 {w : World} {z : Option Addr} {n m : Nat} (ho : o.op = .call { callee := .builtin .len, args := #[x], argTypes := #[35] }) (hx : a.eval x = .slice z n m) : (execOp a.eval o).run Tryz.prog w = .ok (.value (.int .i64 (n : Int))) w := by
  unfold execOp
  simp only [ho, resolve, invoke, builtin, Sem.run_bind, Sem.run_pure, Result.andThen_ok, List.map_toArray, List.map_cons, List.map_nil, hx]
  go_simp
theorem call21_ (args : Array Value) (w : World) : (callFunc 21 args).run Tryz.prog w = .ok (.enter 21 args) w := by go_simp
end
theorem byte_slot' {w : World} {g off cap n : Nat} {l : List UInt8} (h : Vec w 1 (.slice (some ⟨g, off, none⟩) n cap) n (bv l)) {j : Nat} (hj : j < n) : ∃ u, w.cell? ⟨g, off + j, none⟩ = some u ∧ w.frozen? ⟨g, off + j, none⟩ = false := by
  obtain ⟨g', off', c, e, hc, _, _, _, hf⟩ := h.at_ (by omega)
  obtain ⟨rfl, rfl⟩ := slice_inj e
  obtain ⟨a, b⟩ := hf j (by injection e with _ _ e3; omega)
  obtain ⟨u, hu⟩ := Option.isSome_iff_exists.1 a
  exact ⟨u, hu, b⟩
def Good (s : Sy) (p : MPg) : Prop := s.p.uses p.n = true ∧ (p.known = true → st (s.p.view s.d p.n.toNat) = p.text)
def Standing (s : Sy) (m : Mi) : Prop := s.p.free = m.free ∧ (s.p.m.root : Int) = m.root ∧ ∀ p ∈ m.now, Good s p
def StOut (w : World) (s : Sy) (m : Mi) (e : Ending) (w' : World) : Prop := ∃ b, e = .returned (.bool b) ∧ (b = true ↔ Standing s m) ∧ Only None' w w'
section
variable {w0 : Fr} {w w' : World} {L L' : Lo} {R R' : Nat} {F F' : Nat → Prop} {s s' : Sy} {M : Nat} {v v' : Mv} {m m' : Mi} {len n : Nat} {G K : List Nat}
set_option maxHeartbeats 4000000 in
theorem stands_any (h : Bo w0 w L R F s M v m) (l : Li s len n G K) (hn : n ≤ 400000) (lm : Lim s m) (hpg : m.pages = (s.p.pages : Int)) : Calls Tryz.prog 25 #[.pointer (some ⟨L.P, 0, none⟩), .pointer (some ⟨M, 0, none⟩)] w (StOut w s m) := by
  have HPG : Hid (∀ w', Only None' w w' → Calls Tryz.prog 21 #[.pointer (some ⟨L.P, 0, none⟩)] w' fun e w'' => e = .returned (.int .i64 m.pages) ∧ Only None' w' w'') := Lib.hid fun w' o => by
    rw [hpg]; exact (pages_any (h.sy.pg.new o)).mono fun e w2 h => ⟨h.1, by rw [← h.2]; exact Only.refl _ _⟩
  obtain ⟨fp, hfp⟩ : ∃ fp, fp = s.p.free := ⟨_, rfl⟩
  obtain ⟨fm, hfm⟩ : ∃ fm, fm = m.free := ⟨_, rfl⟩
  obtain ⟨rp, hrp⟩ : ∃ rp, rp = (s.p.m.root : Int) := ⟨_, rfl⟩
  have HFP : Hid (∀ w', Only None' w w' → Calls Tryz.prog 19 #[.pointer (some ⟨L.P, 0, none⟩)] w' fun e w'' => e = .returned (.int .i64 fp) ∧ Only None' w' w'') := Lib.hid fun w' o => by
    rw [hfp]; exact free_any (h.sy.pg.new o) l.lv.ok
  have HFM : Hid (∀ w', Only None' w w' → Calls Tryz.prog 61 #[.pointer (some ⟨M, 0, none⟩)] w' fun e w'' => e = .returned (.int .i64 fm) ∧ Only None' w' w'') := Lib.hid fun w' o => by
    rw [hfm]; exact mfree (h.mi.new o) lm.now lm.pg
  have HRP : Hid (∀ w', Only None' w w' → Calls Tryz.prog 18 #[.pointer (some ⟨L.P, 0, none⟩)] w' fun e w'' => e = .returned (.int .i64 rp) ∧ Only None' w' w'') := Lib.hid fun w' o => by
    rw [hrp]; exact (root_any (h.sy.pg.new o)).mono fun e w2 h => ⟨h.1, by rw [← h.2]; exact Only.refl _ _⟩
  have HC : Hid (∀ w', Only None' w w' → CellsR w' M (m.vs v)) := Lib.hid fun w' o => (h.mi.new o).cells
  have H := Lib.hid (And.intro h (And.intro l (And.intro lm (And.intro hn (show Standing s m ↔ (fp = fm ∧ rp = m.root ∧ ∀ p ∈ m.now, Good s p) by unfold Standing; rw [hfp, hfm, hrp])))))
  clear h l lm hn hpg hfp hfm hrp
  by_cases h1 : fp = fm
  case neg =>
    have HB1 : Hid ((fp != fm) = true) := Lib.hid (by simpa using h1)
    have HN := Lib.hid h1
    clear h1
    go_enter Tryz.func25, Tryz.ntmps25
    go_upto_region 1 with fail
    refine r_begin (S := None') (by kernel_rfl) ?_
    have HS := Lib.hid (Only.refl (None') w)
    refine r_take 0 (.pointer (some ⟨L.P, 0, none⟩)) rfl (by kernel_rfl) (fun _ _ _ h => h) HS.out (YR.pure (by rfl) fun w hw => y_move w rfl rfl) ?_
    simp only [Act.put, zA, zB, zC]
    refine r_take 1 (.int .i64 m.pages) rfl (by kernel_rfl) (fun _ _ _ h => h) HS.out (YR.call (by rfl) (fun w => y_enter [.pointer (some ⟨L.P, 0, none⟩)] rfl (by rfl) (call21_ _) w) fun w hw => HPG.out w hw) ?_
    simp only [Act.put, zA, zB, zC]
    refine r_take 2 (.pointer (some ⟨M, 0, none⟩)) rfl (by kernel_rfl) (fun _ _ _ h => h) HS.out (YR.pure (by rfl) fun w hw => y_move w rfl rfl) ?_
    simp only [Act.put, zA, zB, zC]
    refine r_take 3 (.pointer (some ⟨M, 0, none⟩)) rfl (by kernel_rfl) (fun _ _ _ h => h) HS.out (YR.pure (by rfl) fun w hw => y_nil w rfl rfl) ?_
    simp only [Act.put, zA, zB, zC]
    refine r_take 4 (.pointer (some ⟨M, 0, none⟩)) rfl (by kernel_rfl) (fun _ _ _ h => h) HS.out (YR.pure (by rfl) fun w hw => y_f50_0 w rfl rfl) ?_
    simp only [Act.put, zA, zB, zC]
    refine r_take 5 (.int .i64 m.pages) rfl (by kernel_rfl) (fun _ _ _ h => h) HS.out (YR.pure (by rfl) fun w hw => y_load3 rfl rfl ((HC.out w hw).is 0 _ rfl)) ?_
    simp only [Act.put, zA, zB, zC]
    refine r_take 6 (.bool false) rfl (by kernel_rfl) (fun _ _ _ h => h) HS.out (YR.pure (by rfl) fun w hw => y_ne3 w (by simp) rfl rfl rfl) ?_
    simp only [Act.put, zA, zB, zC]
    refine r_take 7 (.bool false) rfl (by kernel_rfl) (fun _ _ _ h => h) HS.out (YR.pure (by rfl) fun w hw => y_move w rfl rfl) ?_
    simp only [Act.put, zA, zB, zC]
    refine r_take 8 (.pointer (some ⟨L.P, 0, none⟩)) rfl (by kernel_rfl) (fun _ _ _ h => h) HS.out (YR.pure (by rfl) fun w hw => y_move w rfl rfl) ?_
    simp only [Act.put, zA, zB, zC]
    refine r_take 9 (.int .i64 fp) rfl (by kernel_rfl) (fun _ _ _ h => h) HS.out (YR.call (by rfl) (fun w => y_enter [.pointer (some ⟨L.P, 0, none⟩)] rfl (by rfl) (call19_ _) w) fun w hw => HFP.out w hw) ?_
    simp only [Act.put, zA, zB, zC]
    refine r_take 10 (.pointer (some ⟨M, 0, none⟩)) rfl (by kernel_rfl) (fun _ _ _ h => h) HS.out (YR.pure (by rfl) fun w hw => y_move w rfl rfl) ?_
    simp only [Act.put, zA, zB, zC]
    refine r_take 11 (.int .i64 fm) rfl (by kernel_rfl) (fun _ _ _ h => h) HS.out (YR.call (by rfl) (fun w => y_enter [.pointer (some ⟨M, 0, none⟩)] rfl (by rfl) (call61_ _) w) fun w hw => HFM.out w hw) ?_
    simp only [Act.put, zA, zB, zC]
    refine r_take 12 (.bool true) rfl (by kernel_rfl) (fun _ _ _ h => h) HS.out (YR.pure (by rfl) fun w hw => y_ne3 w HB1.out rfl rfl rfl) ?_
    simp only [Act.put, zA, zB, zC]
    refine r_take 13 (.bool true) rfl (by kernel_rfl) (fun _ _ _ h => h) HS.out (YR.pure (by rfl) fun w hw => y_pickF w rfl rfl rfl) ?_
    simp only [Act.put, zA, zB, zC]
    refine r_take 14 (.bool true) rfl (by kernel_rfl) (fun _ _ _ h => h) HS.out (YR.pure (by rfl) fun w hw => y_move w rfl rfl) ?_
    simp only [Act.put, zA, zB, zC]
    refine r_take 15 (undef) rfl (by kernel_rfl) (fun _ _ _ h => h) HS.out (.inr ⟨by rfl, rfl⟩) ?_
    simp only [Act.put, zA, zB, zC]
    refine r_take 16 (undef) rfl (by kernel_rfl) (fun _ _ _ h => h) HS.out (.inr ⟨by rfl, rfl⟩) ?_
    simp only [Act.put, zA, zB, zC]
    refine r_take 17 (undef) rfl (by kernel_rfl) (fun _ _ _ h => h) HS.out (.inr ⟨by rfl, rfl⟩) ?_
    simp only [Act.put, zA, zB, zC]
    refine r_take 18 (undef) rfl (by kernel_rfl) (fun _ _ _ h => h) HS.out (.inr ⟨by rfl, rfl⟩) ?_
    simp only [Act.put, zA, zB, zC]
    refine r_take 19 (undef) rfl (by kernel_rfl) (fun _ _ _ h => h) HS.out (.inr ⟨by rfl, rfl⟩) ?_
    simp only [Act.put, zA, zB, zC]
    refine r_take 20 (undef) rfl (by kernel_rfl) (fun _ _ _ h => h) HS.out (.inr ⟨by rfl, rfl⟩) ?_
    simp only [Act.put, zA, zB, zC]
    refine r_take 21 (undef) rfl (by kernel_rfl) (fun _ _ _ h => h) HS.out (.inr ⟨by rfl, rfl⟩) ?_
    simp only [Act.put, zA, zB, zC]
    refine r_take 22 (.bool true) rfl (by kernel_rfl) (fun _ _ _ h => h) HS.out (YR.pure (by rfl) fun w hw => y_pickT w rfl rfl rfl) ?_
    simp only [Act.put, zA, zB, zC]
    refine r_done (by kernel_rfl) fun wz oz => ?_
    have HO := Lib.hid (HS.out.quiet oz)
    clear HS oz
    go_wp2_with fail
    go_ret
    exact ⟨false, rfl, ⟨fun e => Bool.noConfusion e, fun e => absurd (H.out.2.2.2.2.1 e).1 HN.out⟩, HO.out⟩
  have HB1 : Hid ((fp != fm) = false) := Lib.hid (by simpa using h1)
  by_cases h2 : rp = m.root
  case neg =>
    have HB2 : Hid ((rp != m.root) = true) := Lib.hid (by simpa using h2)
    have HN := Lib.hid h2
    clear h1 h2
    go_enter Tryz.func25, Tryz.ntmps25
    go_upto_region 1 with fail
    refine r_begin (S := None') (by kernel_rfl) ?_
    have HS := Lib.hid (Only.refl (None') w)
    refine r_take 0 (.pointer (some ⟨L.P, 0, none⟩)) rfl (by kernel_rfl) (fun _ _ _ h => h) HS.out (YR.pure (by rfl) fun w hw => y_move w rfl rfl) ?_
    simp only [Act.put, zA, zB, zC]
    refine r_take 1 (.int .i64 m.pages) rfl (by kernel_rfl) (fun _ _ _ h => h) HS.out (YR.call (by rfl) (fun w => y_enter [.pointer (some ⟨L.P, 0, none⟩)] rfl (by rfl) (call21_ _) w) fun w hw => HPG.out w hw) ?_
    simp only [Act.put, zA, zB, zC]
    refine r_take 2 (.pointer (some ⟨M, 0, none⟩)) rfl (by kernel_rfl) (fun _ _ _ h => h) HS.out (YR.pure (by rfl) fun w hw => y_move w rfl rfl) ?_
    simp only [Act.put, zA, zB, zC]
    refine r_take 3 (.pointer (some ⟨M, 0, none⟩)) rfl (by kernel_rfl) (fun _ _ _ h => h) HS.out (YR.pure (by rfl) fun w hw => y_nil w rfl rfl) ?_
    simp only [Act.put, zA, zB, zC]
    refine r_take 4 (.pointer (some ⟨M, 0, none⟩)) rfl (by kernel_rfl) (fun _ _ _ h => h) HS.out (YR.pure (by rfl) fun w hw => y_f50_0 w rfl rfl) ?_
    simp only [Act.put, zA, zB, zC]
    refine r_take 5 (.int .i64 m.pages) rfl (by kernel_rfl) (fun _ _ _ h => h) HS.out (YR.pure (by rfl) fun w hw => y_load3 rfl rfl ((HC.out w hw).is 0 _ rfl)) ?_
    simp only [Act.put, zA, zB, zC]
    refine r_take 6 (.bool false) rfl (by kernel_rfl) (fun _ _ _ h => h) HS.out (YR.pure (by rfl) fun w hw => y_ne3 w (by simp) rfl rfl rfl) ?_
    simp only [Act.put, zA, zB, zC]
    refine r_take 7 (.bool false) rfl (by kernel_rfl) (fun _ _ _ h => h) HS.out (YR.pure (by rfl) fun w hw => y_move w rfl rfl) ?_
    simp only [Act.put, zA, zB, zC]
    refine r_take 8 (.pointer (some ⟨L.P, 0, none⟩)) rfl (by kernel_rfl) (fun _ _ _ h => h) HS.out (YR.pure (by rfl) fun w hw => y_move w rfl rfl) ?_
    simp only [Act.put, zA, zB, zC]
    refine r_take 9 (.int .i64 fp) rfl (by kernel_rfl) (fun _ _ _ h => h) HS.out (YR.call (by rfl) (fun w => y_enter [.pointer (some ⟨L.P, 0, none⟩)] rfl (by rfl) (call19_ _) w) fun w hw => HFP.out w hw) ?_
    simp only [Act.put, zA, zB, zC]
    refine r_take 10 (.pointer (some ⟨M, 0, none⟩)) rfl (by kernel_rfl) (fun _ _ _ h => h) HS.out (YR.pure (by rfl) fun w hw => y_move w rfl rfl) ?_
    simp only [Act.put, zA, zB, zC]
    refine r_take 11 (.int .i64 fm) rfl (by kernel_rfl) (fun _ _ _ h => h) HS.out (YR.call (by rfl) (fun w => y_enter [.pointer (some ⟨M, 0, none⟩)] rfl (by rfl) (call61_ _) w) fun w hw => HFM.out w hw) ?_
    simp only [Act.put, zA, zB, zC]
    refine r_take 12 (.bool false) rfl (by kernel_rfl) (fun _ _ _ h => h) HS.out (YR.pure (by rfl) fun w hw => y_ne3 w HB1.out rfl rfl rfl) ?_
    simp only [Act.put, zA, zB, zC]
    refine r_take 13 (.bool false) rfl (by kernel_rfl) (fun _ _ _ h => h) HS.out (YR.pure (by rfl) fun w hw => y_pickF w rfl rfl rfl) ?_
    simp only [Act.put, zA, zB, zC]
    refine r_take 14 (.bool false) rfl (by kernel_rfl) (fun _ _ _ h => h) HS.out (YR.pure (by rfl) fun w hw => y_move w rfl rfl) ?_
    simp only [Act.put, zA, zB, zC]
    refine r_take 15 (.pointer (some ⟨L.P, 0, none⟩)) rfl (by kernel_rfl) (fun _ _ _ h => h) HS.out (YR.pure (by rfl) fun w hw => y_move w rfl rfl) ?_
    simp only [Act.put, zA, zB, zC]
    refine r_take 16 (.int .i64 rp) rfl (by kernel_rfl) (fun _ _ _ h => h) HS.out (YR.call (by rfl) (fun w => y_enter [.pointer (some ⟨L.P, 0, none⟩)] rfl (by rfl) (call18_ _) w) fun w hw => HRP.out w hw) ?_
    simp only [Act.put, zA, zB, zC]
    refine r_take 17 (.pointer (some ⟨M, 0, none⟩)) rfl (by kernel_rfl) (fun _ _ _ h => h) HS.out (YR.pure (by rfl) fun w hw => y_move w rfl rfl) ?_
    simp only [Act.put, zA, zB, zC]
    refine r_take 18 (.pointer (some ⟨M, 0, none⟩)) rfl (by kernel_rfl) (fun _ _ _ h => h) HS.out (YR.pure (by rfl) fun w hw => y_nil w rfl rfl) ?_
    simp only [Act.put, zA, zB, zC]
    refine r_take 19 (.pointer (some ⟨M, 3, none⟩)) rfl (by kernel_rfl) (fun _ _ _ h => h) HS.out (YR.pure (by rfl) fun w hw => y_f50_3 w rfl rfl) ?_
    simp only [Act.put, zA, zB, zC]
    refine r_take 20 (.int .i64 m.root) rfl (by kernel_rfl) (fun _ _ _ h => h) HS.out (YR.pure (by rfl) fun w hw => y_load3 rfl rfl ((HC.out w hw).is 3 _ rfl)) ?_
    simp only [Act.put, zA, zB, zC]
    refine r_take 21 (.bool true) rfl (by kernel_rfl) (fun _ _ _ h => h) HS.out (YR.pure (by rfl) fun w hw => y_ne3 w HB2.out rfl rfl rfl) ?_
    simp only [Act.put, zA, zB, zC]
    refine r_take 22 (.bool true) rfl (by kernel_rfl) (fun _ _ _ h => h) HS.out (YR.pure (by rfl) fun w hw => y_pickF w rfl rfl rfl) ?_
    simp only [Act.put, zA, zB, zC]
    refine r_done (by kernel_rfl) fun wz oz => ?_
    have HO := Lib.hid (HS.out.quiet oz)
    clear HS oz
    go_wp2_with fail
    go_ret
    exact ⟨false, rfl, ⟨fun e => Bool.noConfusion e, fun e => absurd (H.out.2.2.2.2.1 e).2.1 HN.out⟩, HO.out⟩
  have HB2 : Hid ((rp != m.root) = false) := Lib.hid (by simpa using h2)
  have HEQ := Lib.hid (And.intro h1 h2)
  clear h1 h2
  go_enter Tryz.func25, Tryz.ntmps25
  go_upto_region 1 with fail
  refine r_begin (S := None') (by kernel_rfl) ?_
  have HS := Lib.hid (Only.refl (None') w)
  refine r_take 0 (.pointer (some ⟨L.P, 0, none⟩)) rfl (by kernel_rfl) (fun _ _ _ h => h) HS.out (YR.pure (by rfl) fun w hw => y_move w rfl rfl) ?_
  simp only [Act.put, zA, zB, zC]
  refine r_take 1 (.int .i64 m.pages) rfl (by kernel_rfl) (fun _ _ _ h => h) HS.out (YR.call (by rfl) (fun w => y_enter [.pointer (some ⟨L.P, 0, none⟩)] rfl (by rfl) (call21_ _) w) fun w hw => HPG.out w hw) ?_
  simp only [Act.put, zA, zB, zC]
  refine r_take 2 (.pointer (some ⟨M, 0, none⟩)) rfl (by kernel_rfl) (fun _ _ _ h => h) HS.out (YR.pure (by rfl) fun w hw => y_move w rfl rfl) ?_
  simp only [Act.put, zA, zB, zC]
  refine r_take 3 (.pointer (some ⟨M, 0, none⟩)) rfl (by kernel_rfl) (fun _ _ _ h => h) HS.out (YR.pure (by rfl) fun w hw => y_nil w rfl rfl) ?_
  simp only [Act.put, zA, zB, zC]
  refine r_take 4 (.pointer (some ⟨M, 0, none⟩)) rfl (by kernel_rfl) (fun _ _ _ h => h) HS.out (YR.pure (by rfl) fun w hw => y_f50_0 w rfl rfl) ?_
  simp only [Act.put, zA, zB, zC]
  refine r_take 5 (.int .i64 m.pages) rfl (by kernel_rfl) (fun _ _ _ h => h) HS.out (YR.pure (by rfl) fun w hw => y_load3 rfl rfl ((HC.out w hw).is 0 _ rfl)) ?_
  simp only [Act.put, zA, zB, zC]
  refine r_take 6 (.bool false) rfl (by kernel_rfl) (fun _ _ _ h => h) HS.out (YR.pure (by rfl) fun w hw => y_ne3 w (by simp) rfl rfl rfl) ?_
  simp only [Act.put, zA, zB, zC]
  refine r_take 7 (.bool false) rfl (by kernel_rfl) (fun _ _ _ h => h) HS.out (YR.pure (by rfl) fun w hw => y_move w rfl rfl) ?_
  simp only [Act.put, zA, zB, zC]
  refine r_take 8 (.pointer (some ⟨L.P, 0, none⟩)) rfl (by kernel_rfl) (fun _ _ _ h => h) HS.out (YR.pure (by rfl) fun w hw => y_move w rfl rfl) ?_
  simp only [Act.put, zA, zB, zC]
  refine r_take 9 (.int .i64 fp) rfl (by kernel_rfl) (fun _ _ _ h => h) HS.out (YR.call (by rfl) (fun w => y_enter [.pointer (some ⟨L.P, 0, none⟩)] rfl (by rfl) (call19_ _) w) fun w hw => HFP.out w hw) ?_
  simp only [Act.put, zA, zB, zC]
  refine r_take 10 (.pointer (some ⟨M, 0, none⟩)) rfl (by kernel_rfl) (fun _ _ _ h => h) HS.out (YR.pure (by rfl) fun w hw => y_move w rfl rfl) ?_
  simp only [Act.put, zA, zB, zC]
  refine r_take 11 (.int .i64 fm) rfl (by kernel_rfl) (fun _ _ _ h => h) HS.out (YR.call (by rfl) (fun w => y_enter [.pointer (some ⟨M, 0, none⟩)] rfl (by rfl) (call61_ _) w) fun w hw => HFM.out w hw) ?_
  simp only [Act.put, zA, zB, zC]
  refine r_take 12 (.bool false) rfl (by kernel_rfl) (fun _ _ _ h => h) HS.out (YR.pure (by rfl) fun w hw => y_ne3 w HB1.out rfl rfl rfl) ?_
  simp only [Act.put, zA, zB, zC]
  refine r_take 13 (.bool false) rfl (by kernel_rfl) (fun _ _ _ h => h) HS.out (YR.pure (by rfl) fun w hw => y_pickF w rfl rfl rfl) ?_
  simp only [Act.put, zA, zB, zC]
  refine r_take 14 (.bool false) rfl (by kernel_rfl) (fun _ _ _ h => h) HS.out (YR.pure (by rfl) fun w hw => y_move w rfl rfl) ?_
  simp only [Act.put, zA, zB, zC]
  refine r_take 15 (.pointer (some ⟨L.P, 0, none⟩)) rfl (by kernel_rfl) (fun _ _ _ h => h) HS.out (YR.pure (by rfl) fun w hw => y_move w rfl rfl) ?_
  simp only [Act.put, zA, zB, zC]
  refine r_take 16 (.int .i64 rp) rfl (by kernel_rfl) (fun _ _ _ h => h) HS.out (YR.call (by rfl) (fun w => y_enter [.pointer (some ⟨L.P, 0, none⟩)] rfl (by rfl) (call18_ _) w) fun w hw => HRP.out w hw) ?_
  simp only [Act.put, zA, zB, zC]
  refine r_take 17 (.pointer (some ⟨M, 0, none⟩)) rfl (by kernel_rfl) (fun _ _ _ h => h) HS.out (YR.pure (by rfl) fun w hw => y_move w rfl rfl) ?_
  simp only [Act.put, zA, zB, zC]
  refine r_take 18 (.pointer (some ⟨M, 0, none⟩)) rfl (by kernel_rfl) (fun _ _ _ h => h) HS.out (YR.pure (by rfl) fun w hw => y_nil w rfl rfl) ?_
  simp only [Act.put, zA, zB, zC]
  refine r_take 19 (.pointer (some ⟨M, 3, none⟩)) rfl (by kernel_rfl) (fun _ _ _ h => h) HS.out (YR.pure (by rfl) fun w hw => y_f50_3 w rfl rfl) ?_
  simp only [Act.put, zA, zB, zC]
  refine r_take 20 (.int .i64 m.root) rfl (by kernel_rfl) (fun _ _ _ h => h) HS.out (YR.pure (by rfl) fun w hw => y_load3 rfl rfl ((HC.out w hw).is 3 _ rfl)) ?_
  simp only [Act.put, zA, zB, zC]
  refine r_take 21 (.bool false) rfl (by kernel_rfl) (fun _ _ _ h => h) HS.out (YR.pure (by rfl) fun w hw => y_ne3 w HB2.out rfl rfl rfl) ?_
  simp only [Act.put, zA, zB, zC]
  refine r_take 22 (.bool false) rfl (by kernel_rfl) (fun _ _ _ h => h) HS.out (YR.pure (by rfl) fun w hw => y_pickF w rfl rfl rfl) ?_
  simp only [Act.put, zA, zB, zC]
  refine r_done (by kernel_rfl) fun wz oz => ?_
  have HO := Lib.hid (HS.out.quiet oz)
  clear HS oz
  go_wp2_with fail
  obtain ⟨ln, hln⟩ : ∃ ln, ln = m.now.length := ⟨_, rfl⟩
  have HLN := Lib.hid (And.intro hln (show ln ≤ 1000000 by have := H.out.2.2.1.now; omega))
  have ln6 : (ln : Int) ≤ 1000000 := by have := H.out.2.2.1.now; omega
  clear hln HPG HFP HFM HRP
  go_loopg [5] ln (fun gg t wr => ∃ (i : Nat), gg = ln - i ∧ i ≤ ln ∧ t = .int .i64 (i : Int) ∧ Hid (Only None' w wr ∧ ∀ j, j < i → ∀ p, m.now[j]? = some p → Good s p))
  case atStart => exact ⟨0, rfl, Nat.zero_le _, rfl, Lib.hid ⟨HO.out, fun j hj => by omega⟩⟩
  case round =>
    obtain ⟨i, rfl, hi, rfl, HA⟩ := hrel
    rename World => wr
    have hm := H.out.1.mi.new HA.out.1
    obtain ⟨an, cn, hvn, _, _⟩ := hm.now.shape
    have hc1 := hm.cells.is 1 _ rfl
    rw [hvn, ← HLN.out.1] at hc1
    by_cases hlt : i < ln
    · have i0 : (0 : Int) ≤ (i : Int) := by omega
      have i1 : (i : Int) < (ln : Int) := by omega
      obtain ⟨p, hp⟩ : ∃ p, m.now[i]? = some p := ⟨_, List.getElem?_eq_getElem (by have := HLN.out.1; omega)⟩
      obtain ⟨g, off, cap, e, _⟩ := hm.page hp
      have hnow := hm.now
      rw [e] at hnow
      rw [e] at hvn
      injection hvn with e1 _ e3
      subst e1; subst e3
      have hcl := (mindex hnow hp).1
      have HIX : Hid (∀ w', Only None' wr w' → w'.cell? ⟨M, 1, none⟩ = some (.slice (some ⟨g, off, none⟩) ln cap) ∧ w'.cell? ⟨g, off + i * 3 + 1, none⟩ = some (.bool p.known) ∧ w'.cell? ⟨g, off + i * 3 + 2, none⟩ = some (.string p.text)) := Lib.hid fun w' o => by
        have hm2 := hm.new o
        have a := hm2.cells.is 1 _ rfl
        have b := hm2.now
        rw [e] at b
        rw [e, ← HLN.out.1] at a
        exact ⟨a, (mindex b hp).2⟩
      have HI := Lib.hid (And.intro hlt hp)
      have HIL : Hid (i < ln) := Lib.hid hlt
      clear hi hlt hm hp hnow e
      cases hu : s.p.uses p.n with
      | false =>
        have HRD := Lib.hid (pread_no (H.out.1.sy.pg.new HA.out.1) H.out.2.1.lv.ok hu)
        have HNG : Hid (¬ ∀ p ∈ m.now, Good s p) := Lib.hid fun q => by have := (q p (List.mem_of_getElem? HI.out.2)).1; rw [hu] at this; cases this
        clear hu
        go_wp2_with fail
        refine HRD.out.mono ?_
        rintro e w5 ⟨rfl, rfl⟩
        clear hcl hc1 HRD
        go_upto_region 7 with fail
        refine r_begin (S := None') (by kernel_rfl) ?_
        have HS := Lib.hid (Only.refl (None') wr)
        refine r_take 0 (.int .i64 1) rfl (by kernel_rfl) (fun _ _ _ h => h) HS.out (YR.pure (by rfl) fun w hw => y_move w rfl rfl) ?_
        simp only [Act.put, zA, zB, zC]
        refine r_take 1 (.bool true) rfl (by kernel_rfl) (fun _ _ _ h => h) HS.out (YR.pure (by rfl) fun w hw => y_ne29 w rfl rfl rfl rfl) ?_
        simp only [Act.put, zA, zB, zC]
        refine r_take 2 (.bool true) rfl (by kernel_rfl) (fun _ _ _ h => h) HS.out (YR.pure (by rfl) fun w hw => y_move w rfl rfl) ?_
        simp only [Act.put, zA, zB, zC]
        refine r_take 3 (undef) rfl (by kernel_rfl) (fun _ _ _ h => h) HS.out (.inr ⟨by rfl, rfl⟩) ?_
        simp only [Act.put, zA, zB, zC]
        refine r_take 4 (undef) rfl (by kernel_rfl) (fun _ _ _ h => h) HS.out (.inr ⟨by rfl, rfl⟩) ?_
        simp only [Act.put, zA, zB, zC]
        refine r_take 5 (undef) rfl (by kernel_rfl) (fun _ _ _ h => h) HS.out (.inr ⟨by rfl, rfl⟩) ?_
        simp only [Act.put, zA, zB, zC]
        refine r_take 6 (.bool true) rfl (by kernel_rfl) (fun _ _ _ h => h) HS.out (YR.pure (by rfl) fun w hw => y_pickT w rfl rfl rfl) ?_
        simp only [Act.put, zA, zB, zC]
        refine r_take 7 (.bool true) rfl (by kernel_rfl) (fun _ _ _ h => h) HS.out (YR.pure (by rfl) fun w hw => y_move w rfl rfl) ?_
        simp only [Act.put, zA, zB, zC]
        refine r_take 8 (undef) rfl (by kernel_rfl) (fun _ _ _ h => h) HS.out (.inr ⟨by rfl, rfl⟩) ?_
        simp only [Act.put, zA, zB, zC]
        refine r_take 9 (undef) rfl (by kernel_rfl) (fun _ _ _ h => h) HS.out (.inr ⟨by rfl, rfl⟩) ?_
        simp only [Act.put, zA, zB, zC]
        refine r_take 10 (undef) rfl (by kernel_rfl) (fun _ _ _ h => h) HS.out (.inr ⟨by rfl, rfl⟩) ?_
        simp only [Act.put, zA, zB, zC]
        refine r_take 11 (undef) rfl (by kernel_rfl) (fun _ _ _ h => h) HS.out (.inr ⟨by rfl, rfl⟩) ?_
        simp only [Act.put, zA, zB, zC]
        refine r_take 12 (undef) rfl (by kernel_rfl) (fun _ _ _ h => h) HS.out (.inr ⟨by rfl, rfl⟩) ?_
        simp only [Act.put, zA, zB, zC]
        refine r_take 13 (undef) rfl (by kernel_rfl) (fun _ _ _ h => h) HS.out (.inr ⟨by rfl, rfl⟩) ?_
        simp only [Act.put, zA, zB, zC]
        refine r_take 14 (undef) rfl (by kernel_rfl) (fun _ _ _ h => h) HS.out (.inr ⟨by rfl, rfl⟩) ?_
        simp only [Act.put, zA, zB, zC]
        refine r_take 15 (undef) rfl (by kernel_rfl) (fun _ _ _ h => h) HS.out (.inr ⟨by rfl, rfl⟩) ?_
        simp only [Act.put, zA, zB, zC]
        refine r_take 16 (undef) rfl (by kernel_rfl) (fun _ _ _ h => h) HS.out (.inr ⟨by rfl, rfl⟩) ?_
        simp only [Act.put, zA, zB, zC]
        refine r_take 17 (undef) rfl (by kernel_rfl) (fun _ _ _ h => h) HS.out (.inr ⟨by rfl, rfl⟩) ?_
        simp only [Act.put, zA, zB, zC]
        refine r_take 18 (undef) rfl (by kernel_rfl) (fun _ _ _ h => h) HS.out (.inr ⟨by rfl, rfl⟩) ?_
        simp only [Act.put, zA, zB, zC]
        refine r_take 19 (undef) rfl (by kernel_rfl) (fun _ _ _ h => h) HS.out (.inr ⟨by rfl, rfl⟩) ?_
        simp only [Act.put, zA, zB, zC]
        refine r_take 20 (undef) rfl (by kernel_rfl) (fun _ _ _ h => h) HS.out (.inr ⟨by rfl, rfl⟩) ?_
        simp only [Act.put, zA, zB, zC]
        refine r_take 21 (undef) rfl (by kernel_rfl) (fun _ _ _ h => h) HS.out (.inr ⟨by rfl, rfl⟩) ?_
        simp only [Act.put, zA, zB, zC]
        refine r_take 22 (undef) rfl (by kernel_rfl) (fun _ _ _ h => h) HS.out (.inr ⟨by rfl, rfl⟩) ?_
        simp only [Act.put, zA, zB, zC]
        refine r_take 23 (undef) rfl (by kernel_rfl) (fun _ _ _ h => h) HS.out (.inr ⟨by rfl, rfl⟩) ?_
        simp only [Act.put, zA, zB, zC]
        refine r_take 24 (undef) rfl (by kernel_rfl) (fun _ _ _ h => h) HS.out (.inr ⟨by rfl, rfl⟩) ?_
        simp only [Act.put, zA, zB, zC]
        refine r_take 25 (undef) rfl (by kernel_rfl) (fun _ _ _ h => h) HS.out (.inr ⟨by rfl, rfl⟩) ?_
        simp only [Act.put, zA, zB, zC]
        refine r_take 26 (undef) rfl (by kernel_rfl) (fun _ _ _ h => h) HS.out (.inr ⟨by rfl, rfl⟩) ?_
        simp only [Act.put, zA, zB, zC]
        refine r_take 27 (undef) rfl (by kernel_rfl) (fun _ _ _ h => h) HS.out (.inr ⟨by rfl, rfl⟩) ?_
        simp only [Act.put, zA, zB, zC]
        refine r_take 28 (undef) rfl (by kernel_rfl) (fun _ _ _ h => h) HS.out (.inr ⟨by rfl, rfl⟩) ?_
        simp only [Act.put, zA, zB, zC]
        refine r_take 29 (.bool true) rfl (by kernel_rfl) (fun _ _ _ h => h) HS.out (YR.pure (by rfl) fun w hw => y_pickT w rfl rfl rfl) ?_
        simp only [Act.put, zA, zB, zC]
        refine r_done (by kernel_rfl) fun wz oz => ?_
        have HO2 := Lib.hid (HA.out.1.trans (HS.out.quiet oz))
        clear HS oz
        go_wp2_with fail
        go_ret
        exact ⟨false, rfl, ⟨fun e => Bool.noConfusion e, fun e => absurd (H.out.2.2.2.2.1 e).2.2 HNG.out⟩, HO2.out⟩
      | true =>
        obtain ⟨k, ek, k1, klt, _⟩ := H.out.2.1.lv.in_use hu
        have hgt := H.out.2.1.lv.get (n := k) (by have := H.out.2.1.lv.mu; omega)
        obtain ⟨px, hpx⟩ : ∃ px, px = s.p.view s.d k := ⟨_, rfl⟩
        have hpl : px.length = 512 := by rw [hpx]; exact H.out.2.1.lv.view_len (by have := H.out.2.1.lv.mu; omega)
        rw [← hpx] at hgt
        have hrd := pread_ok (H.out.1.sy.pg.new HA.out.1) H.out.2.1.lv.ok (H.out.1.sy.disk.only HA.out.1 fun _ _ e => e) H.out.2.1.dead (by have := H.out.2.1.few.waits; have := H.out.2.2.2.1; omega) (n := k) (by rw [← ek]; exact hu) hgt
        obtain ⟨sx, hsx⟩ : ∃ sx, sx = Go.Proofs.YteoeaojebklfjaaGreatDoor.st px := ⟨_, rfl⟩
        have HPX := Lib.hid (And.intro hsx (And.intro hpl (And.intro hu (show s.p.view s.d p.n.toNat = px by rw [hpx, ek]; rfl))))
        rw [← ek] at hrd
        have HRD := Lib.hid hrd
        clear hu hrd hgt hpx hpl ek k1 klt hsx
        go_wp2_with fail
        refine HRD.out.mono ?_
        rintro e w5 ⟨v1, rfl, hv1, hf1, o5⟩
        have hz := HA.out.1.size
        obtain ⟨gr, ofr, cpr, hve, hcp, _, hgl, hcs, hfs⟩ := hv1.at_ (by decide)
        subst hve
        have hg1 := hf1 gr rfl
        have HV1 := Lib.hid (And.intro hv1 (And.intro o5 (And.intro (show w.heap.size ≤ gr by omega) (show 512 ≤ cpr from hcp))))
        clear hv1 hf1 o5 hcl hc1 HRD hcs hfs hgl hg1 hcp hz
        cases hkn : p.known with
        | false =>
          have HKN := Lib.hid hkn
          clear hkn
          go_upto_region 7 with fail
          refine r_begin (S := None') (by kernel_rfl) ?_
          have HS := Lib.hid (Only.refl (None') w5)
          refine r_take 0 (.int .i64 0) rfl (by kernel_rfl) (fun _ _ _ h => h) HS.out (YR.pure (by rfl) fun w hw => y_move w rfl rfl) ?_
          simp only [Act.put, zA, zB, zC]
          refine r_take 1 (.bool false) rfl (by kernel_rfl) (fun _ _ _ h => h) HS.out (YR.pure (by rfl) fun w hw => y_ne29 w rfl rfl rfl rfl) ?_
          simp only [Act.put, zA, zB, zC]
          refine r_take 2 (.bool false) rfl (by kernel_rfl) (fun _ _ _ h => h) HS.out (YR.pure (by rfl) fun w hw => y_move w rfl rfl) ?_
          simp only [Act.put, zA, zB, zC]
          refine r_take 3 (.slice (some ⟨gr, ofr, none⟩) 512 cpr) rfl (by kernel_rfl) (fun _ _ _ h => h) HS.out (YR.pure (by rfl) fun w hw => y_move w rfl rfl) ?_
          simp only [Act.put, zA, zB, zC]
          refine r_take 4 (.int .i64 512) rfl (by kernel_rfl) (fun _ _ _ h => h) HS.out (YR.pure (by rfl) fun w hw => y_len35 rfl rfl) ?_
          simp only [Act.put, zA, zB, zC]
          refine r_take 5 (.bool false) rfl (by kernel_rfl) (fun _ _ _ h => h) HS.out (YR.pure (by rfl) fun w hw => y_ne3 w rfl rfl rfl rfl) ?_
          simp only [Act.put, zA, zB, zC]
          refine r_take 6 (.bool false) rfl (by kernel_rfl) (fun _ _ _ h => h) HS.out (YR.pure (by rfl) fun w hw => y_pickF w rfl rfl rfl) ?_
          simp only [Act.put, zA, zB, zC]
          refine r_take 7 (.bool false) rfl (by kernel_rfl) (fun _ _ _ h => h) HS.out (YR.pure (by rfl) fun w hw => y_move w rfl rfl) ?_
          simp only [Act.put, zA, zB, zC]
          refine r_take 8 (.pointer (some ⟨M, 0, none⟩)) rfl (by kernel_rfl) (fun _ _ _ h => h) HS.out (YR.pure (by rfl) fun w hw => y_move w rfl rfl) ?_
          simp only [Act.put, zA, zB, zC]
          refine r_take 9 (.pointer (some ⟨M, 0, none⟩)) rfl (by kernel_rfl) (fun _ _ _ h => h) HS.out (YR.pure (by rfl) fun w hw => y_nil w rfl rfl) ?_
          simp only [Act.put, zA, zB, zC]
          refine r_take 10 (.pointer (some ⟨M, 1, none⟩)) rfl (by kernel_rfl) (fun _ _ _ h => h) HS.out (YR.pure (by rfl) fun w hw => y_f50_1 w rfl rfl) ?_
          simp only [Act.put, zA, zB, zC]
          refine r_take 11 (.slice (some ⟨g, off, none⟩) ln cap) rfl (by kernel_rfl) (fun _ _ _ h => h) HS.out (YR.pure (by rfl) fun w hw => y_load48 rfl rfl ((HIX.out w (HV1.out.2.1.trans hw)).1)) ?_
          simp only [Act.put, zA, zB, zC]
          refine r_take 12 (.int .i64 (i : Int)) rfl (by kernel_rfl) (fun _ _ _ h => h) HS.out (YR.pure (by rfl) fun w hw => y_move w rfl rfl) ?_
          simp only [Act.put, zA, zB, zC]
          refine r_take 13 (.pointer (some ⟨g, off + i * 3, none⟩)) rfl (by kernel_rfl) (fun _ _ _ h => h) HS.out (YR.pure (by rfl) fun w hw => y_idx48 w HIL.out rfl rfl rfl) ?_
          simp only [Act.put, zA, zB, zC]
          refine r_take 14 (.pointer (some ⟨g, off + i * 3 + 1, none⟩)) rfl (by kernel_rfl) (fun _ _ _ h => h) HS.out (YR.pure (by rfl) fun w hw => y_f99_1 w rfl rfl) ?_
          simp only [Act.put, zA, zB, zC]
          refine r_take 15 (.bool false) rfl (by kernel_rfl) (fun _ _ _ h => h) HS.out (YR.pure (by rfl) fun w hw => y_load4b rfl rfl (by rw [(HIX.out w (HV1.out.2.1.trans hw)).2.1, HKN.out])) ?_
          simp only [Act.put, zA, zB, zC]
          refine r_take 16 (.bool false) rfl (by kernel_rfl) (fun _ _ _ h => h) HS.out (YR.pure (by rfl) fun w hw => y_move w rfl rfl) ?_
          simp only [Act.put, zA, zB, zC]
          refine r_take 17 (undef) rfl (by kernel_rfl) (fun _ _ _ h => h) HS.out (.inr ⟨by rfl, rfl⟩) ?_
          simp only [Act.put, zA, zB, zC]
          refine r_take 18 (undef) rfl (by kernel_rfl) (fun _ _ _ h => h) HS.out (.inr ⟨by rfl, rfl⟩) ?_
          simp only [Act.put, zA, zB, zC]
          refine r_take 19 (undef) rfl (by kernel_rfl) (fun _ _ _ h => h) HS.out (.inr ⟨by rfl, rfl⟩) ?_
          simp only [Act.put, zA, zB, zC]
          refine r_take 20 (undef) rfl (by kernel_rfl) (fun _ _ _ h => h) HS.out (.inr ⟨by rfl, rfl⟩) ?_
          simp only [Act.put, zA, zB, zC]
          refine r_take 21 (undef) rfl (by kernel_rfl) (fun _ _ _ h => h) HS.out (.inr ⟨by rfl, rfl⟩) ?_
          simp only [Act.put, zA, zB, zC]
          refine r_take 22 (undef) rfl (by kernel_rfl) (fun _ _ _ h => h) HS.out (.inr ⟨by rfl, rfl⟩) ?_
          simp only [Act.put, zA, zB, zC]
          refine r_take 23 (undef) rfl (by kernel_rfl) (fun _ _ _ h => h) HS.out (.inr ⟨by rfl, rfl⟩) ?_
          simp only [Act.put, zA, zB, zC]
          refine r_take 24 (undef) rfl (by kernel_rfl) (fun _ _ _ h => h) HS.out (.inr ⟨by rfl, rfl⟩) ?_
          simp only [Act.put, zA, zB, zC]
          refine r_take 25 (undef) rfl (by kernel_rfl) (fun _ _ _ h => h) HS.out (.inr ⟨by rfl, rfl⟩) ?_
          simp only [Act.put, zA, zB, zC]
          refine r_take 26 (undef) rfl (by kernel_rfl) (fun _ _ _ h => h) HS.out (.inr ⟨by rfl, rfl⟩) ?_
          simp only [Act.put, zA, zB, zC]
          refine r_take 27 (undef) rfl (by kernel_rfl) (fun _ _ _ h => h) HS.out (.inr ⟨by rfl, rfl⟩) ?_
          simp only [Act.put, zA, zB, zC]
          refine r_take 28 (.bool false) rfl (by kernel_rfl) (fun _ _ _ h => h) HS.out (YR.pure (by rfl) fun w hw => y_pickF w rfl rfl rfl) ?_
          simp only [Act.put, zA, zB, zC]
          refine r_take 29 (.bool false) rfl (by kernel_rfl) (fun _ _ _ h => h) HS.out (YR.pure (by rfl) fun w hw => y_pickF w rfl rfl rfl) ?_
          simp only [Act.put, zA, zB, zC]
          refine r_done (by kernel_rfl) fun wz oz => ?_
          have HO2 := Lib.hid (HV1.out.2.1.trans (HS.out.quiet oz))
          have hv6 := HV1.out.1.only (HS.out.quiet oz) fun _ _ e => e
          clear HS oz
          obtain ⟨o0, c0, f0⟩ := byte_slot' hv6 (j := 0) (by decide)
          rw [Nat.add_zero] at c0 f0
          clear hv6
          go_wp2_with fail
          go_roundg (ln - (i + 1))
          case rel =>
            refine ⟨i + 1, rfl, HI.out.1, by first | exact next_int (by have := HI.out.1; have := HLN.out.2; omega) | rfl | (congr 1), Lib.hid ⟨(HA.out.1.trans HO2.out).trans2 ((Only.refl (fun k => k = gr) wz).setCell (p := ⟨gr, ofr, none⟩) rfl (.int .u8 99)) fun k hk e => by have := HV1.out.2.2.1; omega, fun j hj q hq => ?_⟩⟩
            rcases Nat.lt_or_ge j i with e | e
            · exact HA.out.2 j e q hq
            · have e2 : j = i := by omega
              subst e2
              rw [HI.out.2] at hq
              injection hq with hq
              subst hq
              exact ⟨HPX.out.2.2.1, fun hk => by rw [HKN.out] at hk; cases hk⟩
          case measure => have := HI.out.1; omega
        | true =>
          have HKN := Lib.hid hkn
          clear hkn
          obtain ⟨tx, htx⟩ : ∃ tx, tx = p.text := ⟨_, rfl⟩
          have HTX := Lib.hid htx
          by_cases hst : sx = tx
          case pos =>
            have HST := Lib.hid hst
            have HB9 : Hid ((!(sx.toList == tx.toList)) = false) := Lib.hid (by rw [hst]; simp)
            clear hst htx
            go_upto_region 7 with fail
            refine r_begin (S := None') (by kernel_rfl) ?_
            have HS := Lib.hid (Only.refl (None') w5)
            refine r_take 0 (.int .i64 0) rfl (by kernel_rfl) (fun _ _ _ h => h) HS.out (YR.pure (by rfl) fun w hw => y_move w rfl rfl) ?_
            simp only [Act.put, zA, zB, zC]
            refine r_take 1 (.bool false) rfl (by kernel_rfl) (fun _ _ _ h => h) HS.out (YR.pure (by rfl) fun w hw => y_ne29 w rfl rfl rfl rfl) ?_
            simp only [Act.put, zA, zB, zC]
            refine r_take 2 (.bool false) rfl (by kernel_rfl) (fun _ _ _ h => h) HS.out (YR.pure (by rfl) fun w hw => y_move w rfl rfl) ?_
            simp only [Act.put, zA, zB, zC]
            refine r_take 3 (.slice (some ⟨gr, ofr, none⟩) 512 cpr) rfl (by kernel_rfl) (fun _ _ _ h => h) HS.out (YR.pure (by rfl) fun w hw => y_move w rfl rfl) ?_
            simp only [Act.put, zA, zB, zC]
            refine r_take 4 (.int .i64 512) rfl (by kernel_rfl) (fun _ _ _ h => h) HS.out (YR.pure (by rfl) fun w hw => y_len35 rfl rfl) ?_
            simp only [Act.put, zA, zB, zC]
            refine r_take 5 (.bool false) rfl (by kernel_rfl) (fun _ _ _ h => h) HS.out (YR.pure (by rfl) fun w hw => y_ne3 w rfl rfl rfl rfl) ?_
            simp only [Act.put, zA, zB, zC]
            refine r_take 6 (.bool false) rfl (by kernel_rfl) (fun _ _ _ h => h) HS.out (YR.pure (by rfl) fun w hw => y_pickF w rfl rfl rfl) ?_
            simp only [Act.put, zA, zB, zC]
            refine r_take 7 (.bool false) rfl (by kernel_rfl) (fun _ _ _ h => h) HS.out (YR.pure (by rfl) fun w hw => y_move w rfl rfl) ?_
            simp only [Act.put, zA, zB, zC]
            refine r_take 8 (.pointer (some ⟨M, 0, none⟩)) rfl (by kernel_rfl) (fun _ _ _ h => h) HS.out (YR.pure (by rfl) fun w hw => y_move w rfl rfl) ?_
            simp only [Act.put, zA, zB, zC]
            refine r_take 9 (.pointer (some ⟨M, 0, none⟩)) rfl (by kernel_rfl) (fun _ _ _ h => h) HS.out (YR.pure (by rfl) fun w hw => y_nil w rfl rfl) ?_
            simp only [Act.put, zA, zB, zC]
            refine r_take 10 (.pointer (some ⟨M, 1, none⟩)) rfl (by kernel_rfl) (fun _ _ _ h => h) HS.out (YR.pure (by rfl) fun w hw => y_f50_1 w rfl rfl) ?_
            simp only [Act.put, zA, zB, zC]
            refine r_take 11 (.slice (some ⟨g, off, none⟩) ln cap) rfl (by kernel_rfl) (fun _ _ _ h => h) HS.out (YR.pure (by rfl) fun w hw => y_load48 rfl rfl ((HIX.out w (HV1.out.2.1.trans hw)).1)) ?_
            simp only [Act.put, zA, zB, zC]
            refine r_take 12 (.int .i64 (i : Int)) rfl (by kernel_rfl) (fun _ _ _ h => h) HS.out (YR.pure (by rfl) fun w hw => y_move w rfl rfl) ?_
            simp only [Act.put, zA, zB, zC]
            refine r_take 13 (.pointer (some ⟨g, off + i * 3, none⟩)) rfl (by kernel_rfl) (fun _ _ _ h => h) HS.out (YR.pure (by rfl) fun w hw => y_idx48 w HIL.out rfl rfl rfl) ?_
            simp only [Act.put, zA, zB, zC]
            refine r_take 14 (.pointer (some ⟨g, off + i * 3 + 1, none⟩)) rfl (by kernel_rfl) (fun _ _ _ h => h) HS.out (YR.pure (by rfl) fun w hw => y_f99_1 w rfl rfl) ?_
            simp only [Act.put, zA, zB, zC]
            refine r_take 15 (.bool true) rfl (by kernel_rfl) (fun _ _ _ h => h) HS.out (YR.pure (by rfl) fun w hw => y_load4b rfl rfl (by rw [(HIX.out w (HV1.out.2.1.trans hw)).2.1, HKN.out])) ?_
            simp only [Act.put, zA, zB, zC]
            refine r_take 16 (.bool true) rfl (by kernel_rfl) (fun _ _ _ h => h) HS.out (YR.pure (by rfl) fun w hw => y_move w rfl rfl) ?_
            simp only [Act.put, zA, zB, zC]
            refine r_take 17 (.slice (some ⟨gr, ofr, none⟩) 512 cpr) rfl (by kernel_rfl) (fun _ _ _ h => h) HS.out (YR.pure (by rfl) fun w hw => y_move w rfl rfl) ?_
            simp only [Act.put, zA, zB, zC]
            refine r_take 18 (.string sx) rfl (by kernel_rfl) (fun _ _ _ h => h) HS.out (YR.pure (by rfl) fun w hw => (by rw [HPX.out.1]; exact y_str HPX.out.2.1.symm ((HV1.out.1.only hw fun _ _ e => e).rd) rfl rfl)) ?_
            simp only [Act.put, zA, zB, zC]
            refine r_take 19 (.pointer (some ⟨M, 0, none⟩)) rfl (by kernel_rfl) (fun _ _ _ h => h) HS.out (YR.pure (by rfl) fun w hw => y_move w rfl rfl) ?_
            simp only [Act.put, zA, zB, zC]
            refine r_take 20 (.pointer (some ⟨M, 0, none⟩)) rfl (by kernel_rfl) (fun _ _ _ h => h) HS.out (YR.pure (by rfl) fun w hw => y_nil w rfl rfl) ?_
            simp only [Act.put, zA, zB, zC]
            refine r_take 21 (.pointer (some ⟨M, 1, none⟩)) rfl (by kernel_rfl) (fun _ _ _ h => h) HS.out (YR.pure (by rfl) fun w hw => y_f50_1 w rfl rfl) ?_
            simp only [Act.put, zA, zB, zC]
            refine r_take 22 (.slice (some ⟨g, off, none⟩) ln cap) rfl (by kernel_rfl) (fun _ _ _ h => h) HS.out (YR.pure (by rfl) fun w hw => y_load48 rfl rfl ((HIX.out w (HV1.out.2.1.trans hw)).1)) ?_
            simp only [Act.put, zA, zB, zC]
            refine r_take 23 (.int .i64 (i : Int)) rfl (by kernel_rfl) (fun _ _ _ h => h) HS.out (YR.pure (by rfl) fun w hw => y_move w rfl rfl) ?_
            simp only [Act.put, zA, zB, zC]
            refine r_take 24 (.pointer (some ⟨g, off + i * 3, none⟩)) rfl (by kernel_rfl) (fun _ _ _ h => h) HS.out (YR.pure (by rfl) fun w hw => y_idx48 w HIL.out rfl rfl rfl) ?_
            simp only [Act.put, zA, zB, zC]
            refine r_take 25 (.pointer (some ⟨g, off + i * 3 + 2, none⟩)) rfl (by kernel_rfl) (fun _ _ _ h => h) HS.out (YR.pure (by rfl) fun w hw => y_f99_2 w rfl rfl) ?_
            simp only [Act.put, zA, zB, zC]
            refine r_take 26 (.string tx) rfl (by kernel_rfl) (fun _ _ _ h => h) HS.out (YR.pure (by rfl) fun w hw => y_load9 rfl rfl (by rw [(HIX.out w (HV1.out.2.1.trans hw)).2.2, HTX.out])) ?_
            simp only [Act.put, zA, zB, zC]
            refine r_take 27 (.bool false) rfl (by kernel_rfl) (fun _ _ _ h => h) HS.out (YR.pure (by rfl) fun w hw => y_ne9 w HB9.out rfl rfl rfl) ?_
            simp only [Act.put, zA, zB, zC]
            refine r_take 28 (.bool false) rfl (by kernel_rfl) (fun _ _ _ h => h) HS.out (YR.pure (by rfl) fun w hw => y_pickT w rfl rfl rfl) ?_
            simp only [Act.put, zA, zB, zC]
            refine r_take 29 (.bool false) rfl (by kernel_rfl) (fun _ _ _ h => h) HS.out (YR.pure (by rfl) fun w hw => y_pickF w rfl rfl rfl) ?_
            simp only [Act.put, zA, zB, zC]
            refine r_done (by kernel_rfl) fun wz oz => ?_
            have HO2 := Lib.hid (HV1.out.2.1.trans (HS.out.quiet oz))
            have hv6 := HV1.out.1.only (HS.out.quiet oz) fun _ _ e => e
            clear HS oz
            obtain ⟨o0, c0, f0⟩ := byte_slot' hv6 (j := 0) (by decide)
            rw [Nat.add_zero] at c0 f0
            clear hv6
            go_wp2_with fail
            go_roundg (ln - (i + 1))
            case rel =>
              refine ⟨i + 1, rfl, HI.out.1, by first | exact next_int (by have := HI.out.1; have := HLN.out.2; omega) | rfl | (congr 1), Lib.hid ⟨(HA.out.1.trans HO2.out).trans2 ((Only.refl (fun k => k = gr) wz).setCell (p := ⟨gr, ofr, none⟩) rfl (.int .u8 99)) fun k hk e => by have := HV1.out.2.2.1; omega, fun j hj q hq => ?_⟩⟩
              rcases Nat.lt_or_ge j i with e | e
              · exact HA.out.2 j e q hq
              · have e2 : j = i := by omega
                subst e2
                rw [HI.out.2] at hq
                injection hq with hq
                subst hq
                exact ⟨HPX.out.2.2.1, fun hk => by rw [HPX.out.2.2.2, ← HPX.out.1, HST.out, HTX.out]⟩
            case measure => have := HI.out.1; omega
          case neg =>
            have HST : Hid (sx ≠ tx) := Lib.hid hst
            have HB9 : Hid ((!(sx.toList == tx.toList)) = true) := Lib.hid (by have := same_str sx tx; rw [this]; simpa using hst)
            clear hst htx
            go_upto_region 7 with fail
            refine r_begin (S := None') (by kernel_rfl) ?_
            have HS := Lib.hid (Only.refl (None') w5)
            refine r_take 0 (.int .i64 0) rfl (by kernel_rfl) (fun _ _ _ h => h) HS.out (YR.pure (by rfl) fun w hw => y_move w rfl rfl) ?_
            simp only [Act.put, zA, zB, zC]
            refine r_take 1 (.bool false) rfl (by kernel_rfl) (fun _ _ _ h => h) HS.out (YR.pure (by rfl) fun w hw => y_ne29 w rfl rfl rfl rfl) ?_
            simp only [Act.put, zA, zB, zC]
            refine r_take 2 (.bool false) rfl (by kernel_rfl) (fun _ _ _ h => h) HS.out (YR.pure (by rfl) fun w hw => y_move w rfl rfl) ?_
            simp only [Act.put, zA, zB, zC]
            refine r_take 3 (.slice (some ⟨gr, ofr, none⟩) 512 cpr) rfl (by kernel_rfl) (fun _ _ _ h => h) HS.out (YR.pure (by rfl) fun w hw => y_move w rfl rfl) ?_
            simp only [Act.put, zA, zB, zC]
            refine r_take 4 (.int .i64 512) rfl (by kernel_rfl) (fun _ _ _ h => h) HS.out (YR.pure (by rfl) fun w hw => y_len35 rfl rfl) ?_
            simp only [Act.put, zA, zB, zC]
            refine r_take 5 (.bool false) rfl (by kernel_rfl) (fun _ _ _ h => h) HS.out (YR.pure (by rfl) fun w hw => y_ne3 w rfl rfl rfl rfl) ?_
            simp only [Act.put, zA, zB, zC]
            refine r_take 6 (.bool false) rfl (by kernel_rfl) (fun _ _ _ h => h) HS.out (YR.pure (by rfl) fun w hw => y_pickF w rfl rfl rfl) ?_
            simp only [Act.put, zA, zB, zC]
            refine r_take 7 (.bool false) rfl (by kernel_rfl) (fun _ _ _ h => h) HS.out (YR.pure (by rfl) fun w hw => y_move w rfl rfl) ?_
            simp only [Act.put, zA, zB, zC]
            refine r_take 8 (.pointer (some ⟨M, 0, none⟩)) rfl (by kernel_rfl) (fun _ _ _ h => h) HS.out (YR.pure (by rfl) fun w hw => y_move w rfl rfl) ?_
            simp only [Act.put, zA, zB, zC]
            refine r_take 9 (.pointer (some ⟨M, 0, none⟩)) rfl (by kernel_rfl) (fun _ _ _ h => h) HS.out (YR.pure (by rfl) fun w hw => y_nil w rfl rfl) ?_
            simp only [Act.put, zA, zB, zC]
            refine r_take 10 (.pointer (some ⟨M, 1, none⟩)) rfl (by kernel_rfl) (fun _ _ _ h => h) HS.out (YR.pure (by rfl) fun w hw => y_f50_1 w rfl rfl) ?_
            simp only [Act.put, zA, zB, zC]
            refine r_take 11 (.slice (some ⟨g, off, none⟩) ln cap) rfl (by kernel_rfl) (fun _ _ _ h => h) HS.out (YR.pure (by rfl) fun w hw => y_load48 rfl rfl ((HIX.out w (HV1.out.2.1.trans hw)).1)) ?_
            simp only [Act.put, zA, zB, zC]
            refine r_take 12 (.int .i64 (i : Int)) rfl (by kernel_rfl) (fun _ _ _ h => h) HS.out (YR.pure (by rfl) fun w hw => y_move w rfl rfl) ?_
            simp only [Act.put, zA, zB, zC]
            refine r_take 13 (.pointer (some ⟨g, off + i * 3, none⟩)) rfl (by kernel_rfl) (fun _ _ _ h => h) HS.out (YR.pure (by rfl) fun w hw => y_idx48 w HIL.out rfl rfl rfl) ?_
            simp only [Act.put, zA, zB, zC]
            refine r_take 14 (.pointer (some ⟨g, off + i * 3 + 1, none⟩)) rfl (by kernel_rfl) (fun _ _ _ h => h) HS.out (YR.pure (by rfl) fun w hw => y_f99_1 w rfl rfl) ?_
            simp only [Act.put, zA, zB, zC]
            refine r_take 15 (.bool true) rfl (by kernel_rfl) (fun _ _ _ h => h) HS.out (YR.pure (by rfl) fun w hw => y_load4b rfl rfl (by rw [(HIX.out w (HV1.out.2.1.trans hw)).2.1, HKN.out])) ?_
            simp only [Act.put, zA, zB, zC]
            refine r_take 16 (.bool true) rfl (by kernel_rfl) (fun _ _ _ h => h) HS.out (YR.pure (by rfl) fun w hw => y_move w rfl rfl) ?_
            simp only [Act.put, zA, zB, zC]
            refine r_take 17 (.slice (some ⟨gr, ofr, none⟩) 512 cpr) rfl (by kernel_rfl) (fun _ _ _ h => h) HS.out (YR.pure (by rfl) fun w hw => y_move w rfl rfl) ?_
            simp only [Act.put, zA, zB, zC]
            refine r_take 18 (.string sx) rfl (by kernel_rfl) (fun _ _ _ h => h) HS.out (YR.pure (by rfl) fun w hw => (by rw [HPX.out.1]; exact y_str HPX.out.2.1.symm ((HV1.out.1.only hw fun _ _ e => e).rd) rfl rfl)) ?_
            simp only [Act.put, zA, zB, zC]
            refine r_take 19 (.pointer (some ⟨M, 0, none⟩)) rfl (by kernel_rfl) (fun _ _ _ h => h) HS.out (YR.pure (by rfl) fun w hw => y_move w rfl rfl) ?_
            simp only [Act.put, zA, zB, zC]
            refine r_take 20 (.pointer (some ⟨M, 0, none⟩)) rfl (by kernel_rfl) (fun _ _ _ h => h) HS.out (YR.pure (by rfl) fun w hw => y_nil w rfl rfl) ?_
            simp only [Act.put, zA, zB, zC]
            refine r_take 21 (.pointer (some ⟨M, 1, none⟩)) rfl (by kernel_rfl) (fun _ _ _ h => h) HS.out (YR.pure (by rfl) fun w hw => y_f50_1 w rfl rfl) ?_
            simp only [Act.put, zA, zB, zC]
            refine r_take 22 (.slice (some ⟨g, off, none⟩) ln cap) rfl (by kernel_rfl) (fun _ _ _ h => h) HS.out (YR.pure (by rfl) fun w hw => y_load48 rfl rfl ((HIX.out w (HV1.out.2.1.trans hw)).1)) ?_
            simp only [Act.put, zA, zB, zC]
            refine r_take 23 (.int .i64 (i : Int)) rfl (by kernel_rfl) (fun _ _ _ h => h) HS.out (YR.pure (by rfl) fun w hw => y_move w rfl rfl) ?_
            simp only [Act.put, zA, zB, zC]
            refine r_take 24 (.pointer (some ⟨g, off + i * 3, none⟩)) rfl (by kernel_rfl) (fun _ _ _ h => h) HS.out (YR.pure (by rfl) fun w hw => y_idx48 w HIL.out rfl rfl rfl) ?_
            simp only [Act.put, zA, zB, zC]
            refine r_take 25 (.pointer (some ⟨g, off + i * 3 + 2, none⟩)) rfl (by kernel_rfl) (fun _ _ _ h => h) HS.out (YR.pure (by rfl) fun w hw => y_f99_2 w rfl rfl) ?_
            simp only [Act.put, zA, zB, zC]
            refine r_take 26 (.string tx) rfl (by kernel_rfl) (fun _ _ _ h => h) HS.out (YR.pure (by rfl) fun w hw => y_load9 rfl rfl (by rw [(HIX.out w (HV1.out.2.1.trans hw)).2.2, HTX.out])) ?_
            simp only [Act.put, zA, zB, zC]
            refine r_take 27 (.bool true) rfl (by kernel_rfl) (fun _ _ _ h => h) HS.out (YR.pure (by rfl) fun w hw => y_ne9 w HB9.out rfl rfl rfl) ?_
            simp only [Act.put, zA, zB, zC]
            refine r_take 28 (.bool true) rfl (by kernel_rfl) (fun _ _ _ h => h) HS.out (YR.pure (by rfl) fun w hw => y_pickT w rfl rfl rfl) ?_
            simp only [Act.put, zA, zB, zC]
            refine r_take 29 (.bool true) rfl (by kernel_rfl) (fun _ _ _ h => h) HS.out (YR.pure (by rfl) fun w hw => y_pickF w rfl rfl rfl) ?_
            simp only [Act.put, zA, zB, zC]
            refine r_done (by kernel_rfl) fun wz oz => ?_
            have HO2 := Lib.hid ((HA.out.1.trans HV1.out.2.1).trans (HS.out.quiet oz))
            have HNG : Hid (¬ ∀ p ∈ m.now, Good s p) := Lib.hid fun q => by
              have := (q p (List.mem_of_getElem? HI.out.2)).2 HKN.out
              rw [HPX.out.2.2.2, ← HPX.out.1, ← HTX.out] at this
              exact HST.out this
            clear HS oz
            go_wp2_with fail
            go_ret
            exact ⟨false, rfl, ⟨fun e => Bool.noConfusion e, fun e => absurd (H.out.2.2.2.2.1 e).2.2 HNG.out⟩, HO2.out⟩
    · have i1 : ¬ (i : Int) < (ln : Int) := by omega
      have HIE : Hid (i = ln) := Lib.hid (by omega)
      clear hlt hi
      go_wp2_with fail
      go_ret
      exact ⟨true, rfl, ⟨fun _ => H.out.2.2.2.2.2 ⟨HEQ.out.1, HEQ.out.2, fun p hp => by
        obtain ⟨j, hj⟩ := List.mem_iff_getElem?.1 hp
        exact HA.out.2 j (by have := (List.getElem?_eq_some_iff.1 hj).1; have := HLN.out.1; have := HIE.out; omega) p hj⟩, fun _ => rfl⟩, HA.out.1⟩
end
end Go.Proofs.YteoeaojebklfjaaGreatDoor
