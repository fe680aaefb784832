/- AG + AH + AI in one text. -/
import Derived.Test.YtfmpidacklhmaaaAF
/- ask (24): refused; not on the shelf; not a Get. (Printed by tp.py.) -/
namespace Go.Proofs.Ytfmpidacklhmaaa
open Go.RowKit Go.Maps
set_option linter.unusedVariables false
set_option linter.unusedSimpArgs false
set_option maxRecDepth 20000

theorem dcheck_ok {o : Op5} (h : o.code = 0) (w : World) : Calls Try.prog 35 #[o.v] w fun e w' => e = .returned (.int .i64 0) ∧ Only None' w w' := by
  have := dcheck_any o w
  rw [h] at this
  exact this
def Cs.newWait (s : Cs) (m : Mg) : Wt := ⟨((s.c.life * 1048576 + s.c.given + 1 : Nat) : Int), m.key, m.client, m.id, s.clock, s.clock, false⟩
def Cs.asks (s : Cs) (m : Mg) : Cs := { s with c := s.c.asked m.key m.client m.id s.clock, f := fun j => if j = (s.newWait m).req then ⟨m.op5, false⟩ else s.f j, n := s.n + 1 }
theorem find_new {c : Cl} (h : c.Ok) (key : ByteArray) (client id now : Int) : (c.asked key client id now).find ((c.life * 1048576 + c.given + 1 : Nat) : Int) = some ⟨((c.life * 1048576 + c.given + 1 : Nat) : Int), key, client, id, now, now, false⟩ := by
  unfold Cl.find Cl.asked
  simp only
  rw [List.find?_append, List.find?_eq_none.2 fun x hx => ?_]
  · simp
  · have := (h.num x hx).2
    unfold Cl.top at this
    simp only [decide_eq_true_eq]
    omega
/-- a message in a box of its own -/
structure Bx (w wz : World) (b : Bk) (s s1 : Cs) (m : Mg) (X : Nat) : Prop where
  did : Did b s s1 w wz
  c5 : CellsR wz X m.row
  n5 : w.heap.size ≤ X
  no : ¬ b.own s1.l X
theorem Bx.on {w wz wy : World} {b : Bk} {s s1 : Cs} {m : Mg} {X : Nat} (h : Bx w wz b s s1 m X) (o : Only None' wz wy) : Bx w wy b s s1 m X := ⟨h.did.new o, h.c5.kept o fun e => e, h.n5, h.no⟩
theorem Bx.to {w wz wy : World} {b : Bk} {s s1 s2 : Cs} {m : Mg} {X : Nat} (h : Bx w wz b s s1 m X) (d : Did b s1 s2 wz wy) : Bx w wy b s s2 m X :=
  ⟨h.did.trans d, h.c5.kept d.kept.only h.no, h.n5, (d.kept.stay h.c5.lt h.no).2.1⟩
theorem bx_new {w w1 : World} {b : Bk} {s : Cs} (H : CacheAt w b s) (m : Mg) (o1 : Only None' w w1) (c : CellsR w1 w.heap.size m.row) : Bx w w1 b s s m w.heap.size :=
  ⟨H.did.new o1, c, Nat.le_refl _, H.not_own (Nat.le_refl _)⟩
theorem Told.from_ {w w1 w' : World} {b : Bk} {s : Cs} {v : Value} {a : Option (Int × Mg)} (h : Told w1 w' b s v a) (hw : w.heap.size ≤ w1.heap.size) : Told w w' b s v a := by
  cases a with
  | none => exact h
  | some q =>
    obtain ⟨R, h1, h2, h3⟩ := h
    exact ⟨R, h1, Nat.le_trans hw h2, h3⟩
theorem hask_no {w : World} {b : Bk} (s : Cs) (h : CacheAt w b s) (m : Mg) (from_ : Int) (hf : m.client ≠ from_) : Calls Try.prog 24 #[.pointer (some ⟨b.C, 0, none⟩), .int .i64 from_, m.v] w fun e w' => ∃ v, e = .returned v ∧ Told w w' b s v none ∧ Did b s s w w' := by
  have d1 : (m.client == from_) = false := by rw [beq_eq_false_iff_ne]; exact hf
  have H := Lib.hid h
  unfold Mg.v
  clear h
  go_enter Try.func24, Try.ntmps24
  go_upto_region 1 with fail
  generalize hX : w.heap.size = X5
  generalize hw1 : w.alloc _ = w1
  have HB : Hid (Bx w w1 b s s m X5) := Lib.hid (by
    have o1 : Only None' w w1 := by rw [← hw1]; exact (Only.refl None' w).alloc _
    rw [← hX]
    exact bx_new H.out m o1 (by rw [← hw1]; exact cells_new w m.row 44))
  clear hX hw1
  have k5 := HB.out.c5.is 5 _ rfl
  go_wp2_with fail
  go_ret
  exact ⟨_, rfl, rfl, HB.out.did⟩
theorem hask_put {w : World} {b : Bk} (s : Cs) (h : CacheAt w b s) (m : Mg) (hop : m.op ≠ 1) (hcode : m.op5.code = 0) (hac : s.c.askCode s.clock = 0) (hn : s.n ≤ 900000) (hks : m.key.size ≤ 1000000) (hat : s.ow = 0 → s.at_ = 0) : Calls Try.prog 24 #[.pointer (some ⟨b.C, 0, none⟩), .int .i64 m.client, m.v] w fun e w' => ∃ v, e = .returned v ∧ Told w w' b ((s.asks m).fwd (s.newWait m)) v (some ((s.asks m).fwdMail (s.newWait m))) ∧ Did b s ((s.asks m).fwd (s.newWait m)) w w' := by
  have d7 : (m.op == 1) = false := by rw [beq_eq_false_iff_ne]; exact hop
  have H := Lib.hid h
  have HCD := Lib.hid hcode
  have HAC := Lib.hid hac
  have HN := Lib.hid hn
  have HKS := Lib.hid hks
  have HAT := Lib.hid hat
  have dm : (m.client == m.client) = true := beq_self_eq_true _
  unfold Mg.v
  clear h hcode hac hn hks hat
  go_enter Try.func24, Try.ntmps24
  go_upto_region 1 with fail
  generalize hX : w.heap.size = X5
  generalize hw1 : w.alloc _ = w1
  have HB : Hid (Bx w w1 b s s m X5) := Lib.hid (by
    have o1 : Only None' w w1 := by rw [← hw1]; exact (Only.refl None' w).alloc _
    rw [← hX]
    exact bx_new H.out m o1 (by rw [← hw1]; exact cells_new w m.row 44))
  clear hX hw1
  have k5 := HB.out.c5.is 5 _ rfl
  have k7 := HB.out.c5.is 7 _ rfl
  have k8 := HB.out.c5.is 8 _ rfl
  have k9 := HB.out.c5.is 9 _ rfl
  have k10 := HB.out.c5.is 10 _ rfl
  have k11 := HB.out.c5.is 11 _ rfl
  go_wp2_with fail
  refine (dcheck_ok (o := m.op5) HCD.out w1).mono ?_
  rintro e w2 ⟨rfl, o2⟩
  have HB2 := Lib.hid (HB.out.on o2)
  clear HB o2 k5 k7 k8 k9 k10 k11
  have k7 := HB2.out.c5.is 7 _ rfl
  clear hop
  go_upto_region 7 with fail
  clear k7 dm d7
  have HC : Hid (∀ w', Only (fun k => k = b.Bc ∨ k = b.Mc) w2 w' → CellsR w' b.C (cacheR b s.clock)) := Lib.hid fun w' o => HB2.out.did.at_.blk.kept o (by have := HB2.out.did.at_.apart; omega)
  have HM : Hid (∀ w', Only (fun k => k = b.Bc ∨ k = b.Mc) w2 w' → CellsR w' X5 m.row) := Lib.hid fun w' o => HB2.out.c5.kept o (by have h1 := HB2.out.no; rintro (e | e); exact h1 (.inr (.inr (.inl e))); exact h1 (.inr (.inr (.inr (.inl e)))))
  refine r_begin (S := fun k => k = b.Bc ∨ k = b.Mc) (by kernel_rfl) ?_
  have HS := Lib.hid (Only.refl (fun k => k = b.Bc ∨ k = b.Mc) w2)
  refine r_take 0 (.pointer (some ⟨b.C, 0, none⟩)) rfl (by kernel_rfl) (fun _ _ _ h => h) HS.out (YR.pure (by rfl) fun w hw => y_move w rfl rfl) ?_
  simp only [Act.put, List.setIfInBounds_toArray, List.set_cons_zero, List.set_cons_succ]
  refine r_take 1 (.pointer (some ⟨b.C, 0, none⟩)) rfl (by kernel_rfl) (fun _ _ _ h => h) HS.out (YR.pure (by rfl) fun w hw => y_nil w rfl rfl) ?_
  simp only [Act.put, List.setIfInBounds_toArray, List.set_cons_zero, List.set_cons_succ]
  refine r_take 2 (.pointer (some ⟨b.C, 17, none⟩)) rfl (by kernel_rfl) (fun _ _ _ h => h) HS.out (YR.pure (by rfl) fun w hw => y_f64_5 w rfl rfl) ?_
  simp only [Act.put, List.setIfInBounds_toArray, List.set_cons_zero, List.set_cons_succ]
  refine r_take 3 (.pointer (some ⟨b.Bc, 0, none⟩)) rfl (by kernel_rfl) (fun _ _ _ h => h) HS.out (YR.pure (by rfl) fun w hw => y_load53 rfl rfl ((HC.out w hw).is 17 _ rfl)) ?_
  simp only [Act.put, List.setIfInBounds_toArray, List.set_cons_zero, List.set_cons_succ]
  refine r_take 4 (.pointer (some ⟨X5, 7, none⟩)) rfl (by kernel_rfl) (fun _ _ _ h => h) HS.out (YR.pure (by rfl) fun w hw => y_f44_7 w rfl rfl) ?_
  simp only [Act.put, List.setIfInBounds_toArray, List.set_cons_zero, List.set_cons_succ]
  refine r_take 5 (.pointer (some ⟨X5, 8, none⟩)) rfl (by kernel_rfl) (fun _ _ _ h => h) HS.out (YR.pure (by rfl) fun w hw => y_f34_1 w rfl rfl) ?_
  simp only [Act.put, List.setIfInBounds_toArray, List.set_cons_zero, List.set_cons_succ]
  refine r_take 6 (.string m.key) rfl (by kernel_rfl) (fun _ _ _ h => h) HS.out (YR.pure (by rfl) fun w hw => y_load9 rfl rfl ((HM.out w hw).is 8 _ rfl)) ?_
  simp only [Act.put, List.setIfInBounds_toArray, List.set_cons_zero, List.set_cons_succ]
  refine r_take 7 (.pointer (some ⟨X5, 5, none⟩)) rfl (by kernel_rfl) (fun _ _ _ h => h) HS.out (YR.pure (by rfl) fun w hw => y_f44_5 w rfl rfl) ?_
  simp only [Act.put, List.setIfInBounds_toArray, List.set_cons_zero, List.set_cons_succ]
  refine r_take 8 (.int .i64 m.client) rfl (by kernel_rfl) (fun _ _ _ h => h) HS.out (YR.pure (by rfl) fun w hw => y_load3 rfl rfl ((HM.out w hw).is 5 _ rfl)) ?_
  simp only [Act.put, List.setIfInBounds_toArray, List.set_cons_zero, List.set_cons_succ]
  refine r_take 9 (.pointer (some ⟨X5, 6, none⟩)) rfl (by kernel_rfl) (fun _ _ _ h => h) HS.out (YR.pure (by rfl) fun w hw => y_f44_6 w rfl rfl) ?_
  simp only [Act.put, List.setIfInBounds_toArray, List.set_cons_zero, List.set_cons_succ]
  refine r_take 10 (.int .i64 m.id) rfl (by kernel_rfl) (fun _ _ _ h => h) HS.out (YR.pure (by rfl) fun w hw => y_load3 rfl rfl ((HM.out w hw).is 6 _ rfl)) ?_
  simp only [Act.put, List.setIfInBounds_toArray, List.set_cons_zero, List.set_cons_succ]
  refine r_take 11 (.pointer (some ⟨b.C, 0, none⟩)) rfl (by kernel_rfl) (fun _ _ _ h => h) HS.out (YR.pure (by rfl) fun w hw => y_move w rfl rfl) ?_
  simp only [Act.put, List.setIfInBounds_toArray, List.set_cons_zero, List.set_cons_succ]
  refine r_take 12 (.pointer (some ⟨b.C, 0, none⟩)) rfl (by kernel_rfl) (fun _ _ _ h => h) HS.out (YR.pure (by rfl) fun w hw => y_nil w rfl rfl) ?_
  simp only [Act.put, List.setIfInBounds_toArray, List.set_cons_zero, List.set_cons_succ]
  refine r_take 13 (.pointer (some ⟨b.C, 14, none⟩)) rfl (by kernel_rfl) (fun _ _ _ h => h) HS.out (YR.pure (by rfl) fun w hw => y_f64_2 w rfl rfl) ?_
  simp only [Act.put, List.setIfInBounds_toArray, List.set_cons_zero, List.set_cons_succ]
  refine r_take 14 (.int .i64 s.clock) rfl (by kernel_rfl) (fun _ _ _ h => h) HS.out (YR.pure (by rfl) fun w hw => y_load3 rfl rfl ((HC.out w hw).is 14 _ rfl)) ?_
  simp only [Act.put, List.setIfInBounds_toArray, List.set_cons_zero, List.set_cons_succ]
  refine r_one 15 rfl (by kernel_rfl) (by rfl) fun wi oi => ?_
  refine wp_enter (y_enter [.pointer (some ⟨b.Bc, 0, none⟩), .string m.key, .int .i64 m.client, .int .i64 m.id, .int .i64 s.clock] rfl (by rfl) (call39_ _) wi) ((ask_go (HB2.out.on oi).did.at_.calls m.key m.client m.id s.clock HAC.out).mono ?_)
  rintro e wj ⟨rfl, hr, oj⟩
  refine ⟨_, rfl, (HS.out.quiet oi).trans oj, ?_⟩
  simp only [Act.put, List.setIfInBounds_toArray, List.set_cons_zero, List.set_cons_succ]
  have HT := Lib.hid ((HS.out.quiet oi).trans oj)
  have HB3 := Lib.hid ((HB2.out.on oi).to ((HB2.out.on oi).did.at_.calls_to hr oj))
  clear HS oi oj hr
  have HS := HT
  clear HT
  refine r_take 16 (.tuple #[.int .i64 (s.newWait m).req, .int .i64 0]) rfl (by kernel_rfl) (fun _ _ _ h => h) HS.out (YR.pure (by rfl) fun w hw => y_move w rfl rfl) ?_
  simp only [Act.put, List.setIfInBounds_toArray, List.set_cons_zero, List.set_cons_succ]
  refine r_take 17 (.int .i64 (s.newWait m).req) rfl (by kernel_rfl) (fun _ _ _ h => h) HS.out (YR.pure (by rfl) fun w hw => y_ext0 w rfl rfl) ?_
  simp only [Act.put, List.setIfInBounds_toArray, List.set_cons_zero, List.set_cons_succ]
  refine r_take 18 (.int .i64 0) rfl (by kernel_rfl) (fun _ _ _ h => h) HS.out (YR.pure (by rfl) fun w hw => y_ext1 w rfl rfl) ?_
  simp only [Act.put, List.setIfInBounds_toArray, List.set_cons_zero, List.set_cons_succ]
  refine r_take 19 (.int .i64 (s.newWait m).req) rfl (by kernel_rfl) (fun _ _ _ h => h) HS.out (YR.pure (by rfl) fun w hw => y_assign w rfl rfl) ?_
  simp only [Act.put, List.setIfInBounds_toArray, List.set_cons_zero, List.set_cons_succ]
  refine r_take 20 (.int .i64 0) rfl (by kernel_rfl) (fun _ _ _ h => h) HS.out (YR.pure (by rfl) fun w hw => y_assign w rfl rfl) ?_
  simp only [Act.put, List.setIfInBounds_toArray, List.set_cons_zero, List.set_cons_succ]
  refine r_done (by kernel_rfl) fun wz oz => ?_
  have HB4 := Lib.hid (HB3.out.on oz)
  clear oz HS HB3 HC HM
  have c18 := HB4.out.did.at_.cells.c18
  have k7 := HB4.out.c5.is 7 _ rfl
  have k8 := HB4.out.c5.is 8 _ rfl
  have k9 := HB4.out.c5.is 9 _ rfl
  have k10 := HB4.out.c5.is 10 _ rfl
  have k11 := HB4.out.c5.is 11 _ rfl
  obtain ⟨D, hD, hat⟩ := HB4.out.did.at_.asked.map
  have HD := Lib.hid (And.intro hD hat)
  have HRQ : Hid ((Lit.int .i64 (s.newWait m).req).wf = true) := Lib.hid (by have h1 := HB4.out.did.at_.calls.ok.l2; have h2 := HB4.out.did.at_.calls.ok.g; simp only [Cl.asked] at h1 h2; exact wf64 (by unfold Cs.newWait; simp only; omega) (by unfold Cs.newWait; simp only; omega))
  clear hD hat
  go_wp2_with fail
  go_still_tail 8, (by kernel_rfl)
  refine wpList_mapUpdate_in _ rfl _ _ _ 62 rfl 3 101 keyed3 under62 akR b.Ma _ D rfl (HD.out.1.drew) (Nat.lt_of_le_of_lt (m := 900000) HN.out (by unfold maxLen; omega)) (.int .i64 (s.newWait m).req) _ (.int .i64 (s.newWait m).req) rfl rfl (keyOf_int_mk Try.underlying3 HRQ.out) (Ak.mk m.op5 false).d [] rfl ?_
  intro w4 ho4 ht4
  have HB5 : Hid (Bx w w4 b s (s.asks m) m X5) := Lib.hid (by
    have o4 : Only (fun j => j = b.Ma) wz w4 := (Only.drew (Only.refl _ _)).turned ht4 rfl
    have a4 := asked_put (D := D) (x := Ak.mk m.op5 false) ⟨_, _, HD.out.1⟩ HD.out.2 HRQ.out ho4
    exact HB4.out.to (HB4.out.did.at_.asked_to a4 o4))
  clear ho4 ht4 HD HB4 c18 k7 k8 k9 k10 k11
  have c17 := HB5.out.did.at_.cells.c17
  go_wp2_with fail
  refine (look_any HB5.out.did.at_.calls (s.newWait m).req HRQ.out).mono ?_
  rintro e w5 ⟨rfl, o5⟩
  have e5 : (s.asks m).c.find (s.newWait m).req = some (s.newWait m) := find_new H.out.calls.ok _ _ _ _
  rw [e5]
  have HB6 := Lib.hid (HB5.out.on o5)
  clear e5 HB5 o5 c17
  obtain ⟨x, hx⟩ : ∃ x, x = s.newWait m := ⟨_, rfl⟩
  rw [← hx] at HRQ ⊢
  have HXX := Lib.hid hx
  clear hx
  unfold Wt.v Option.getD
  simp only [Option.isSome_some]
  go_wp2_with fail
  refine (fwd_any (HB6.out.did.at_.new ((Only.refl None' w5).alloc _)) x HRQ.out (by rw [HXX.out]; exact HKS.out) (show s.n + 1 ≤ 1000000 by have := HN.out; omega) HAT.out).mono ?_
  rintro e w7 ⟨v, rfl, ht, hd⟩
  have HE := Lib.hid (And.intro ht hd)
  clear ht hd
  go_wp2_with fail
  go_ret
  rw [← HXX.out]
  exact ⟨v, rfl, HE.out.1.from_ (Nat.le_trans HB6.out.did.kept.only.size (by simp)), (HB6.out.did.new ((Only.refl None' w5).alloc _)).trans HE.out.2⟩
end Go.Proofs.Ytfmpidacklhmaaa
/- ask (24): a Get, not on the shelf, and on it. (Printed by tp.py.) -/
namespace Go.Proofs.Ytfmpidacklhmaaa
open Go.RowKit Go.Maps
set_option linter.unusedVariables false
set_option linter.unusedSimpArgs false
set_option maxRecDepth 20000

theorem get_miss {w : World} {b : Bk} {s : Cs} (h : CacheAt w b s) (k : ByteArray) (now : Int) (hk : k.size ≤ 140737488355328) (hh : Lru.hasKey s.l k = false) :
    Calls Try.prog 36 #[.pointer (some ⟨b.B, 0, none⟩), .string k, .int .i64 now] w fun r w' => r = .returned (.tuple #[.agg #[.string ⟨#[]⟩, .string ⟨#[]⟩, .int .i64 0, .int .i64 0], .bool false]) ∧ Only None' w w' :=
  (Lru.get_none h.shelf k now hk hh).mono fun r w' h => ⟨h.1, ofLru0 h.2.2⟩
theorem get_hit {w : World} {b : Bk} {s : Cs} (h : CacheAt w b s) {p q : List Lru.Node} {x : Lru.Node} (hl : s.l = p ++ x :: q) {k : ByteArray} (hk : k = x.2.key) (hnow : ¬ x.2.til ≤ s.clock) :
    Calls Try.prog 36 #[.pointer (some ⟨b.B, 0, none⟩), .string k, .int .i64 s.clock] w fun r w' => r = .returned (.tuple #[.agg #[.string x.2.key, .string x.2.val, .int .i64 x.2.til, .int .i64 x.2.gra], .bool true]) ∧ Did b s { s with l := p ++ q ++ [x] } w w' ∧ Only (Lru.Own b.B b.M s.l) w w' := by
  subst hk
  have h0 := h.shelf
  rw [hl] at h0
  refine (Lru.get_live h0 s.clock hnow).mono ?_
  rintro r w' ⟨rfl, h1, h2⟩
  rw [← hl] at h2
  refine ⟨rfl, h.shelf_to h1 h2 fun k hk => .inl ?_, ofLru h2⟩
  rw [hl]
  simp only [Lru.nums, List.map_append, List.map_cons, List.map_nil, List.mem_append, List.mem_cons, List.not_mem_nil, or_false] at hk ⊢
  rcases hk with (hk | hk) | hk
  · exact .inl hk
  · exact .inr (.inr hk)
  · exact .inr (.inl hk)
section
variable {P : Program} {md : Region.Mode} {l : List Oper} {Q : Exit → Act → World → Prop} {w0 : World} {S : Nat → Prop}
/-- two that may come up -/
theorem r_two (i j : Nat) {oi oj : Oper} {ri rj : List Oper} {fuel : Nat} {listed : Array Bool} {a : Act} {w : World} (hi : l.drop i = oi :: ri) (hj : l.drop j = oj :: rj)
    (hr : Region.ready md l.toArray listed = [i, j]) (hwi : Region.wanted oi (yielded l.toArray a.tmps) = true) (hwj : Region.wanted oj (yielded l.toArray a.tmps) = true)
    (h1 : ∀ w', Only None' w w' → Oper.wp P oi a w' (fun a' w'' => Only S w0 w'' ∧ AnyR P md l.toArray Q S w0 fuel (listed.setIfInBounds i true) a' w'') Q)
    (h2 : ∀ w', Only None' w w' → Oper.wp P oj a w' (fun a' w'' => Only S w0 w'' ∧ AnyR P md l.toArray Q S w0 fuel (listed.setIfInBounds j true) a' w'') Q) : AnyR P md l.toArray Q S w0 (fuel + 1) listed a w := by
  refine ⟨fun h0 => (by rw [hr] at h0; cases h0), fun w' o' k hk => ?_⟩
  rw [hr, List.mem_cons, List.mem_singleton] at hk
  unfold wpOp
  rcases hk with rfl | rfl
  · simp only [r_drop hi, hwi, if_true]
    exact .inl (h1 w' o')
  · simp only [r_drop hj, hwj, if_true]
    exact .inl (h2 w' o')
end
set_option maxHeartbeats 1000000 in
theorem hask_miss {w : World} {b : Bk} (s : Cs) (h : CacheAt w b s) (m : Mg) (hop : m.op = 1) (hh : Lru.hasKey s.l m.key = false) (hcode : m.op5.code = 0) (hac : s.c.askCode s.clock = 0) (hn : s.n ≤ 900000) (hks : m.key.size ≤ 1000000) (hat : s.ow = 0 → s.at_ = 0) : Calls Try.prog 24 #[.pointer (some ⟨b.C, 0, none⟩), .int .i64 m.client, m.v] w fun e w' => ∃ v, e = .returned v ∧ Told w w' b ((s.asks m).fwd (s.newWait m)) v (some ((s.asks m).fwdMail (s.newWait m))) ∧ Did b s ((s.asks m).fwd (s.newWait m)) w w' := by
  have d7 : (m.op == 1) = true := by rw [hop]; rfl
  have HH := Lib.hid hh
  clear hh hop
  have H := Lib.hid h
  have HCD := Lib.hid hcode
  have HAC := Lib.hid hac
  have HN := Lib.hid hn
  have HKS := Lib.hid hks
  have HAT := Lib.hid hat
  have dm : (m.client == m.client) = true := beq_self_eq_true _
  unfold Mg.v
  clear h hcode hac hn hks hat
  go_enter Try.func24, Try.ntmps24
  go_upto_region 1 with fail
  generalize hX : w.heap.size = X5
  generalize hw1 : w.alloc _ = w1
  have HB : Hid (Bx w w1 b s s m X5) := Lib.hid (by
    have o1 : Only None' w w1 := by rw [← hw1]; exact (Only.refl None' w).alloc _
    rw [← hX]
    exact bx_new H.out m o1 (by rw [← hw1]; exact cells_new w m.row 44))
  clear hX hw1
  have k5 := HB.out.c5.is 5 _ rfl
  have k7 := HB.out.c5.is 7 _ rfl
  have k8 := HB.out.c5.is 8 _ rfl
  have k9 := HB.out.c5.is 9 _ rfl
  have k10 := HB.out.c5.is 10 _ rfl
  have k11 := HB.out.c5.is 11 _ rfl
  go_wp2_with fail
  refine (dcheck_ok (o := m.op5) HCD.out w1).mono ?_
  rintro e w2 ⟨rfl, o2⟩
  have HB2 := Lib.hid (HB.out.on o2)
  clear HB o2 k5 k7 k8 k9 k10 k11
  have k7 := HB2.out.c5.is 7 _ rfl
  go_upto_region 4 with fail
  clear k7 dm d7
  have HA : Hid (∀ w', Only None' w2 w' → CacheAt w' b s) := Lib.hid fun w' o => HB2.out.did.at_.new o
  have HM : Hid (∀ w', Only None' w2 w' → CellsR w' X5 m.row) := Lib.hid fun w' o => HB2.out.c5.kept o fun e => e
  refine r_begin (S := None') (by kernel_rfl) ?_
  have HS := Lib.hid (Only.refl (None') w2)
  refine r_take 0 (.pointer (some ⟨b.C, 0, none⟩)) rfl (by kernel_rfl) (fun _ _ _ h => h) HS.out (YR.pure (by rfl) fun w hw => y_move w rfl rfl) ?_
  simp only [Act.put, List.setIfInBounds_toArray, List.set_cons_zero, List.set_cons_succ]
  refine r_take 1 (.pointer (some ⟨b.C, 0, none⟩)) rfl (by kernel_rfl) (fun _ _ _ h => h) HS.out (YR.pure (by rfl) fun w hw => y_nil w rfl rfl) ?_
  simp only [Act.put, List.setIfInBounds_toArray, List.set_cons_zero, List.set_cons_succ]
  refine r_take 2 (.pointer (some ⟨b.C, 15, none⟩)) rfl (by kernel_rfl) (fun _ _ _ h => h) HS.out (YR.pure (by rfl) fun w hw => y_f64_3 w rfl rfl) ?_
  simp only [Act.put, List.setIfInBounds_toArray, List.set_cons_zero, List.set_cons_succ]
  refine r_take 3 (.pointer (some ⟨b.B, 0, none⟩)) rfl (by kernel_rfl) (fun _ _ _ h => h) HS.out (YR.pure (by rfl) fun w hw => y_load56 rfl rfl ((HA.out w hw).cells.c15)) ?_
  simp only [Act.put, List.setIfInBounds_toArray, List.set_cons_zero, List.set_cons_succ]
  refine r_take 4 (.pointer (some ⟨X5, 7, none⟩)) rfl (by kernel_rfl) (fun _ _ _ h => h) HS.out (YR.pure (by rfl) fun w hw => y_f44_7 w rfl rfl) ?_
  simp only [Act.put, List.setIfInBounds_toArray, List.set_cons_zero, List.set_cons_succ]
  refine r_take 5 (.pointer (some ⟨X5, 8, none⟩)) rfl (by kernel_rfl) (fun _ _ _ h => h) HS.out (YR.pure (by rfl) fun w hw => y_f34_1 w rfl rfl) ?_
  simp only [Act.put, List.setIfInBounds_toArray, List.set_cons_zero, List.set_cons_succ]
  refine r_take 6 (.string m.key) rfl (by kernel_rfl) (fun _ _ _ h => h) HS.out (YR.pure (by rfl) fun w hw => y_load9 rfl rfl ((HM.out w hw).is 8 _ rfl)) ?_
  simp only [Act.put, List.setIfInBounds_toArray, List.set_cons_zero, List.set_cons_succ]
  refine r_take 7 (.pointer (some ⟨b.C, 0, none⟩)) rfl (by kernel_rfl) (fun _ _ _ h => h) HS.out (YR.pure (by rfl) fun w hw => y_move w rfl rfl) ?_
  simp only [Act.put, List.setIfInBounds_toArray, List.set_cons_zero, List.set_cons_succ]
  refine r_take 8 (.pointer (some ⟨b.C, 0, none⟩)) rfl (by kernel_rfl) (fun _ _ _ h => h) HS.out (YR.pure (by rfl) fun w hw => y_nil w rfl rfl) ?_
  simp only [Act.put, List.setIfInBounds_toArray, List.set_cons_zero, List.set_cons_succ]
  refine r_take 9 (.pointer (some ⟨b.C, 14, none⟩)) rfl (by kernel_rfl) (fun _ _ _ h => h) HS.out (YR.pure (by rfl) fun w hw => y_f64_2 w rfl rfl) ?_
  simp only [Act.put, List.setIfInBounds_toArray, List.set_cons_zero, List.set_cons_succ]
  refine r_take 10 (.int .i64 s.clock) rfl (by kernel_rfl) (fun _ _ _ h => h) HS.out (YR.pure (by rfl) fun w hw => y_load3 rfl rfl ((HA.out w hw).cells.c14)) ?_
  simp only [Act.put, List.setIfInBounds_toArray, List.set_cons_zero, List.set_cons_succ]
  refine r_take 11 (.tuple #[.agg #[.string ⟨#[]⟩, .string ⟨#[]⟩, .int .i64 0, .int .i64 0], .bool false]) rfl (by kernel_rfl) (fun _ _ _ h => h) HS.out (YR.call (by rfl) (fun w => y_enter [.pointer (some ⟨b.B, 0, none⟩), .string m.key, .int .i64 s.clock] rfl (by rfl) (call36_ _) w) fun w hw => get_miss (HA.out w hw) m.key s.clock (by have := HKS.out; omega) HH.out) ?_
  simp only [Act.put, List.setIfInBounds_toArray, List.set_cons_zero, List.set_cons_succ]
  refine r_take 12 (.tuple #[.agg #[.string ⟨#[]⟩, .string ⟨#[]⟩, .int .i64 0, .int .i64 0], .bool false]) rfl (by kernel_rfl) (fun _ _ _ h => h) HS.out (YR.pure (by rfl) fun w hw => y_move w rfl rfl) ?_
  simp only [Act.put, List.setIfInBounds_toArray, List.set_cons_zero, List.set_cons_succ]
  refine r_take 13 (.agg #[.string ⟨#[]⟩, .string ⟨#[]⟩, .int .i64 0, .int .i64 0]) rfl (by kernel_rfl) (fun _ _ _ h => h) HS.out (YR.pure (by rfl) fun w hw => y_ext0 w rfl rfl) ?_
  simp only [Act.put, List.setIfInBounds_toArray, List.set_cons_zero, List.set_cons_succ]
  refine r_take 14 (.bool false) rfl (by kernel_rfl) (fun _ _ _ h => h) HS.out (YR.pure (by rfl) fun w hw => y_ext1 w rfl rfl) ?_
  simp only [Act.put, List.setIfInBounds_toArray, List.set_cons_zero, List.set_cons_succ]
  refine r_one 15 rfl (by kernel_rfl) (by rfl) fun wi oi => ?_
  refine wp_alloc (n := 4) rfl alloc66 rfl fun X7 wj hX7 hm oj => ⟨HS.out.quiet (oi.trans oj), ?_⟩
  simp only [Act.put, List.setIfInBounds_toArray, List.set_cons_zero, List.set_cons_succ]
  have HMX7 := Lib.hid hm
  have HXX7 : Hid (_ ≤ X7) := Lib.hid (Nat.le_trans (HS.out.quiet oi).size (Nat.le_of_eq hX7.symm))
  have HT := Lib.hid (HS.out.quiet (oi.trans oj))
  clear hm hX7 oi oj HS
  have HS := HT
  clear HT
  refine r_one 16 rfl (by kernel_rfl) (by rfl) fun wi oi => ?_
  refine wp_store_new (row := [.string ⟨#[]⟩, .string ⟨#[]⟩, .int .i64 0, .int .i64 0]) rfl rfl rfl (HMX7.out.only oi fun e => e) size66 (by simp [Value.oneCell']) fun wj hc oj => ⟨(HS.out.quiet oi).trans2 oj (fun k hk e => by have := HXX7.out; omega), ?_⟩
  simp only [Act.put, List.setIfInBounds_toArray, List.set_cons_zero, List.set_cons_succ]
  have HCX7 := Lib.hid hc
  have HT := Lib.hid ((HS.out.quiet oi).trans2 oj (fun k hk e => by have := HXX7.out; omega))
  clear hc oi oj HS
  have HS := HT
  clear HT
  refine r_take 17 (.bool false) rfl (by kernel_rfl) (fun _ _ _ h => h) HS.out (YR.pure (by rfl) fun w hw => y_assign w rfl rfl) ?_
  simp only [Act.put, List.setIfInBounds_toArray, List.set_cons_zero, List.set_cons_succ]
  refine r_done (by kernel_rfl) fun wz oz => ?_
  have HB3b := Lib.hid (HB2.out.on (HS.out.trans oz))
  clear HS oz HMX7 HCX7 HXX7 HA HM HB2
  go_upto_region 7 with fail
  have HC : Hid (∀ w', Only (fun k => k = b.Bc ∨ k = b.Mc) wz w' → CellsR w' b.C (cacheR b s.clock)) := Lib.hid fun w' o => HB3b.out.did.at_.blk.kept o (by have := HB3b.out.did.at_.apart; omega)
  have HM : Hid (∀ w', Only (fun k => k = b.Bc ∨ k = b.Mc) wz w' → CellsR w' X5 m.row) := Lib.hid fun w' o => HB3b.out.c5.kept o (by have h1 := HB3b.out.no; rintro (e | e); exact h1 (.inr (.inr (.inl e))); exact h1 (.inr (.inr (.inr (.inl e)))))
  refine r_begin (S := fun k => k = b.Bc ∨ k = b.Mc) (by kernel_rfl) ?_
  have HS := Lib.hid (Only.refl (fun k => k = b.Bc ∨ k = b.Mc) wz)
  refine r_take 0 (.pointer (some ⟨b.C, 0, none⟩)) rfl (by kernel_rfl) (fun _ _ _ h => h) HS.out (YR.pure (by rfl) fun w hw => y_move w rfl rfl) ?_
  simp only [Act.put, List.setIfInBounds_toArray, List.set_cons_zero, List.set_cons_succ]
  refine r_take 1 (.pointer (some ⟨b.C, 0, none⟩)) rfl (by kernel_rfl) (fun _ _ _ h => h) HS.out (YR.pure (by rfl) fun w hw => y_nil w rfl rfl) ?_
  simp only [Act.put, List.setIfInBounds_toArray, List.set_cons_zero, List.set_cons_succ]
  refine r_take 2 (.pointer (some ⟨b.C, 17, none⟩)) rfl (by kernel_rfl) (fun _ _ _ h => h) HS.out (YR.pure (by rfl) fun w hw => y_f64_5 w rfl rfl) ?_
  simp only [Act.put, List.setIfInBounds_toArray, List.set_cons_zero, List.set_cons_succ]
  refine r_take 3 (.pointer (some ⟨b.Bc, 0, none⟩)) rfl (by kernel_rfl) (fun _ _ _ h => h) HS.out (YR.pure (by rfl) fun w hw => y_load53 rfl rfl ((HC.out w hw).is 17 _ rfl)) ?_
  simp only [Act.put, List.setIfInBounds_toArray, List.set_cons_zero, List.set_cons_succ]
  refine r_take 4 (.pointer (some ⟨X5, 7, none⟩)) rfl (by kernel_rfl) (fun _ _ _ h => h) HS.out (YR.pure (by rfl) fun w hw => y_f44_7 w rfl rfl) ?_
  simp only [Act.put, List.setIfInBounds_toArray, List.set_cons_zero, List.set_cons_succ]
  refine r_take 5 (.pointer (some ⟨X5, 8, none⟩)) rfl (by kernel_rfl) (fun _ _ _ h => h) HS.out (YR.pure (by rfl) fun w hw => y_f34_1 w rfl rfl) ?_
  simp only [Act.put, List.setIfInBounds_toArray, List.set_cons_zero, List.set_cons_succ]
  refine r_take 6 (.string m.key) rfl (by kernel_rfl) (fun _ _ _ h => h) HS.out (YR.pure (by rfl) fun w hw => y_load9 rfl rfl ((HM.out w hw).is 8 _ rfl)) ?_
  simp only [Act.put, List.setIfInBounds_toArray, List.set_cons_zero, List.set_cons_succ]
  refine r_take 7 (.pointer (some ⟨X5, 5, none⟩)) rfl (by kernel_rfl) (fun _ _ _ h => h) HS.out (YR.pure (by rfl) fun w hw => y_f44_5 w rfl rfl) ?_
  simp only [Act.put, List.setIfInBounds_toArray, List.set_cons_zero, List.set_cons_succ]
  refine r_take 8 (.int .i64 m.client) rfl (by kernel_rfl) (fun _ _ _ h => h) HS.out (YR.pure (by rfl) fun w hw => y_load3 rfl rfl ((HM.out w hw).is 5 _ rfl)) ?_
  simp only [Act.put, List.setIfInBounds_toArray, List.set_cons_zero, List.set_cons_succ]
  refine r_take 9 (.pointer (some ⟨X5, 6, none⟩)) rfl (by kernel_rfl) (fun _ _ _ h => h) HS.out (YR.pure (by rfl) fun w hw => y_f44_6 w rfl rfl) ?_
  simp only [Act.put, List.setIfInBounds_toArray, List.set_cons_zero, List.set_cons_succ]
  refine r_take 10 (.int .i64 m.id) rfl (by kernel_rfl) (fun _ _ _ h => h) HS.out (YR.pure (by rfl) fun w hw => y_load3 rfl rfl ((HM.out w hw).is 6 _ rfl)) ?_
  simp only [Act.put, List.setIfInBounds_toArray, List.set_cons_zero, List.set_cons_succ]
  refine r_take 11 (.pointer (some ⟨b.C, 0, none⟩)) rfl (by kernel_rfl) (fun _ _ _ h => h) HS.out (YR.pure (by rfl) fun w hw => y_move w rfl rfl) ?_
  simp only [Act.put, List.setIfInBounds_toArray, List.set_cons_zero, List.set_cons_succ]
  refine r_take 12 (.pointer (some ⟨b.C, 0, none⟩)) rfl (by kernel_rfl) (fun _ _ _ h => h) HS.out (YR.pure (by rfl) fun w hw => y_nil w rfl rfl) ?_
  simp only [Act.put, List.setIfInBounds_toArray, List.set_cons_zero, List.set_cons_succ]
  refine r_take 13 (.pointer (some ⟨b.C, 14, none⟩)) rfl (by kernel_rfl) (fun _ _ _ h => h) HS.out (YR.pure (by rfl) fun w hw => y_f64_2 w rfl rfl) ?_
  simp only [Act.put, List.setIfInBounds_toArray, List.set_cons_zero, List.set_cons_succ]
  refine r_take 14 (.int .i64 s.clock) rfl (by kernel_rfl) (fun _ _ _ h => h) HS.out (YR.pure (by rfl) fun w hw => y_load3 rfl rfl ((HC.out w hw).is 14 _ rfl)) ?_
  simp only [Act.put, List.setIfInBounds_toArray, List.set_cons_zero, List.set_cons_succ]
  refine r_one 15 rfl (by kernel_rfl) (by rfl) fun wi oi => ?_
  refine wp_enter (y_enter [.pointer (some ⟨b.Bc, 0, none⟩), .string m.key, .int .i64 m.client, .int .i64 m.id, .int .i64 s.clock] rfl (by rfl) (call39_ _) wi) ((ask_go (HB3b.out.on oi).did.at_.calls m.key m.client m.id s.clock HAC.out).mono ?_)
  rintro e wj ⟨rfl, hr, oj⟩
  refine ⟨_, rfl, (HS.out.quiet oi).trans oj, ?_⟩
  simp only [Act.put, List.setIfInBounds_toArray, List.set_cons_zero, List.set_cons_succ]
  have HT := Lib.hid ((HS.out.quiet oi).trans oj)
  have HB3 := Lib.hid ((HB3b.out.on oi).to ((HB3b.out.on oi).did.at_.calls_to hr oj))
  clear HS oi oj hr
  have HS := HT
  clear HT
  refine r_take 16 (.tuple #[.int .i64 (s.newWait m).req, .int .i64 0]) rfl (by kernel_rfl) (fun _ _ _ h => h) HS.out (YR.pure (by rfl) fun w hw => y_move w rfl rfl) ?_
  simp only [Act.put, List.setIfInBounds_toArray, List.set_cons_zero, List.set_cons_succ]
  refine r_take 17 (.int .i64 (s.newWait m).req) rfl (by kernel_rfl) (fun _ _ _ h => h) HS.out (YR.pure (by rfl) fun w hw => y_ext0 w rfl rfl) ?_
  simp only [Act.put, List.setIfInBounds_toArray, List.set_cons_zero, List.set_cons_succ]
  refine r_take 18 (.int .i64 0) rfl (by kernel_rfl) (fun _ _ _ h => h) HS.out (YR.pure (by rfl) fun w hw => y_ext1 w rfl rfl) ?_
  simp only [Act.put, List.setIfInBounds_toArray, List.set_cons_zero, List.set_cons_succ]
  refine r_take 19 (.int .i64 (s.newWait m).req) rfl (by kernel_rfl) (fun _ _ _ h => h) HS.out (YR.pure (by rfl) fun w hw => y_assign w rfl rfl) ?_
  simp only [Act.put, List.setIfInBounds_toArray, List.set_cons_zero, List.set_cons_succ]
  refine r_take 20 (.int .i64 0) rfl (by kernel_rfl) (fun _ _ _ h => h) HS.out (YR.pure (by rfl) fun w hw => y_assign w rfl rfl) ?_
  simp only [Act.put, List.setIfInBounds_toArray, List.set_cons_zero, List.set_cons_succ]
  refine r_done (by kernel_rfl) fun wz oz => ?_
  have HB4 := Lib.hid (HB3.out.on oz)
  clear oz HS HB3 HC HM
  have c18 := HB4.out.did.at_.cells.c18
  have k7 := HB4.out.c5.is 7 _ rfl
  have k8 := HB4.out.c5.is 8 _ rfl
  have k9 := HB4.out.c5.is 9 _ rfl
  have k10 := HB4.out.c5.is 10 _ rfl
  have k11 := HB4.out.c5.is 11 _ rfl
  obtain ⟨D, hD, hat⟩ := HB4.out.did.at_.asked.map
  have HD := Lib.hid (And.intro hD hat)
  have HRQ : Hid ((Lit.int .i64 (s.newWait m).req).wf = true) := Lib.hid (by have h1 := HB4.out.did.at_.calls.ok.l2; have h2 := HB4.out.did.at_.calls.ok.g; simp only [Cl.asked] at h1 h2; exact wf64 (by unfold Cs.newWait; simp only; omega) (by unfold Cs.newWait; simp only; omega))
  clear hD hat
  go_wp2_with fail
  go_still_tail 8, (by kernel_rfl)
  refine wpList_mapUpdate_in _ rfl _ _ _ 62 rfl 3 101 keyed3 under62 akR b.Ma _ D rfl (HD.out.1.drew) (Nat.lt_of_le_of_lt (m := 900000) HN.out (by unfold maxLen; omega)) (.int .i64 (s.newWait m).req) _ (.int .i64 (s.newWait m).req) rfl rfl (keyOf_int_mk Try.underlying3 HRQ.out) (Ak.mk m.op5 false).d [] rfl ?_
  intro w4 ho4 ht4
  have HB5 : Hid (Bx w w4 b s (s.asks m) m X5) := Lib.hid (by
    have o4 : Only (fun j => j = b.Ma) wz w4 := (Only.drew (Only.refl _ _)).turned ht4 rfl
    have a4 := asked_put (D := D) (x := Ak.mk m.op5 false) ⟨_, _, HD.out.1⟩ HD.out.2 HRQ.out ho4
    exact HB4.out.to (HB4.out.did.at_.asked_to a4 o4))
  clear ho4 ht4 HD HB4 c18 k7 k8 k9 k10 k11
  have c17 := HB5.out.did.at_.cells.c17
  go_wp2_with fail
  refine (look_any HB5.out.did.at_.calls (s.newWait m).req HRQ.out).mono ?_
  rintro e w5 ⟨rfl, o5⟩
  have e5 : (s.asks m).c.find (s.newWait m).req = some (s.newWait m) := find_new H.out.calls.ok _ _ _ _
  rw [e5]
  have HB6 := Lib.hid (HB5.out.on o5)
  clear e5 HB5 o5 c17
  obtain ⟨x, hx⟩ : ∃ x, x = s.newWait m := ⟨_, rfl⟩
  rw [← hx] at HRQ ⊢
  have HXX := Lib.hid hx
  clear hx
  unfold Wt.v Option.getD
  simp only [Option.isSome_some]
  go_wp2_with fail
  refine (fwd_any (HB6.out.did.at_.new ((Only.refl None' w5).alloc _)) x HRQ.out (by rw [HXX.out]; exact HKS.out) (show s.n + 1 ≤ 1000000 by have := HN.out; omega) HAT.out).mono ?_
  rintro e w7 ⟨v, rfl, ht, hd⟩
  have HE := Lib.hid (And.intro ht hd)
  clear ht hd
  go_wp2_with fail
  go_ret
  rw [← HXX.out]
  exact ⟨v, rfl, HE.out.1.from_ (Nat.le_trans HB6.out.did.kept.only.size (by simp)), (HB6.out.did.new ((Only.refl None' w5).alloc _)).trans HE.out.2⟩
end Go.Proofs.Ytfmpidacklhmaaa
/- ask (24): a Get that is on the shelf. (Printed by tp.py.) -/
namespace Go.Proofs.Ytfmpidacklhmaaa
open Go.RowKit Go.Maps
set_option linter.unusedVariables false
set_option linter.unusedSimpArgs false
set_option maxRecDepth 20000

/-- a block of its own beside a message's box -/
structure Lx (w wz : World) (b : Bk) (s1 : Cs) (X5 X7 : Nat) (T : TypeId) (n : Nat) : Prop where
  made : Made wz X7 T n
  no : ¬ b.own s1.l X7
  ne : X5 ≠ X7
  n7 : w.heap.size ≤ X7
theorem Made.lt {w : World} {X : Nat} {T : TypeId} {n : Nat} (h : Made w X T n) : X < w.heap.size := by
  obtain ⟨old, h1, h2⟩ := h.is
  exact (Array.getElem?_eq_some_iff.1 h1).1
theorem Lx.new {w wc wi wj : World} {b : Bk} {s s1 : Cs} {m : Mg} {X5 X7 : Nat} {T : TypeId} {n : Nat} (h : Bx w wc b s s1 m X5) (o : Only None' wc wi) (hX : X7 = wi.heap.size) (hm : Made wj X7 T n) : Lx w wj b s1 X5 X7 T n :=
  ⟨hm, h.did.at_.not_own (by rw [hX]; exact o.size), by have := h.c5.lt; have := o.size; omega, by rw [hX]; exact Nat.le_trans h.did.kept.only.size o.size⟩
theorem Lx.to {w wj wk : World} {b : Bk} {s1 s2 : Cs} {X5 X7 : Nat} {T : TypeId} {n : Nat} (h : Lx w wj b s1 X5 X7 T n) (d : Did b s1 s2 wj wk) : Lx w wk b s2 X5 X7 T n :=
  ⟨h.made.only d.kept.only h.no, (d.kept.stay h.made.lt h.no).2.1, h.ne, h.n7⟩
theorem Lx.on {w wj wk : World} {b : Bk} {s1 : Cs} {X5 X7 : Nat} {T : TypeId} {n : Nat} (h : Lx w wj b s1 X5 X7 T n) (o : Only None' wj wk) : Lx w wk b s1 X5 X7 T n :=
  ⟨h.made.only o fun e => e, h.no, h.ne, h.n7⟩
theorem Bx.stored {w wz wy : World} {b : Bk} {s s1 : Cs} {m : Mg} {X5 X7 : Nat} {T : TypeId} {n : Nat} (h : Bx w wz b s s1 m X5) {wk : World} (o : Only (fun k => k = X7) wz wy) (l : Lx w wk b s1 X5 X7 T n) : Bx w wy b s s1 m X5 := by
  refine ⟨⟨h.did.at_.only o fun k hk e => l.no (e ▸ hk), h.did.kept.only.trans2 o fun k hk e => ?_, h.did.kept.fresh⟩, h.c5.kept o l.ne, h.n5, h.no⟩
  have := l.n7; omega
set_option maxHeartbeats 1000000 in
theorem hask_hit {w : World} {b : Bk} (s : Cs) (h : CacheAt w b s) (m : Mg) (hop : m.op = 1) {p q : List Lru.Node} {x : Lru.Node} (hl : s.l = p ++ x :: q) (hkx : m.key = x.2.key) (hnow : ¬ x.2.til ≤ s.clock) (hcode : m.op5.code = 0) (hks : m.key.size ≤ 1000000) : Calls Try.prog 24 #[.pointer (some ⟨b.C, 0, none⟩), .int .i64 m.client, m.v] w fun e w' => ∃ v, e = .returned v ∧ Told w w' b { s with l := p ++ q ++ [x] } v (some (m.client, { kind := 11, req := m.req, rk := 1, rf := true, rv := x.2.val })) ∧ Did b s { s with l := p ++ q ++ [x] } w w' := by
  have d7 : (m.op == 1) = true := by rw [hop]; rfl
  have HGET := Lib.hid (fun (wi : World) (hi : CacheAt wi b s) => get_hit hi hl hkx hnow)
  clear hop hl hkx hnow
  have H := Lib.hid h
  have HCD := Lib.hid hcode
  have HKS := Lib.hid hks
  have dm : (m.client == m.client) = true := beq_self_eq_true _
  unfold Mg.v
  clear h hcode hks
  go_enter Try.func24, Try.ntmps24
  go_upto_region 1 with fail
  generalize hX : w.heap.size = X5
  generalize hw1 : w.alloc _ = w1
  have HB : Hid (Bx w w1 b s s m X5) := Lib.hid (by
    have o1 : Only None' w w1 := by rw [← hw1]; exact (Only.refl None' w).alloc _
    rw [← hX]
    exact bx_new H.out m o1 (by rw [← hw1]; exact cells_new w m.row 44))
  clear hX hw1
  have k5 := HB.out.c5.is 5 _ rfl
  have k7 := HB.out.c5.is 7 _ rfl
  have k8 := HB.out.c5.is 8 _ rfl
  have k9 := HB.out.c5.is 9 _ rfl
  have k10 := HB.out.c5.is 10 _ rfl
  have k11 := HB.out.c5.is 11 _ rfl
  go_wp2_with fail
  refine (dcheck_ok (o := m.op5) HCD.out w1).mono ?_
  rintro e w2 ⟨rfl, o2⟩
  have HB2 := Lib.hid (HB.out.on o2)
  clear HB o2 k5 k7 k8 k9 k10 k11
  have k7 := HB2.out.c5.is 7 _ rfl
  go_upto_region 4 with fail
  clear k7 dm d7
  obtain ⟨s2, hs2⟩ : ∃ s2 : Cs, s2 = { s with l := p ++ q ++ [x] } := ⟨_, rfl⟩
  rw [← hs2] at HGET
  have HS2 := Lib.hid hs2
  clear hs2
  have HC : Hid (∀ w', Only (Lru.Own b.B b.M s.l) w2 w' → CellsR w' b.C (cacheR b s.clock)) := Lib.hid fun w' o => HB2.out.did.at_.blk.kept o fun e => HB2.out.did.at_.sep _ e (.inl rfl)
  have HM : Hid (∀ w', Only (Lru.Own b.B b.M s.l) w2 w' → CellsR w' X5 m.row) := Lib.hid fun w' o => HB2.out.c5.kept o fun e => HB2.out.no (.inl e)
  go_cut [7, 8] from 27 to 42 (fun u7 u8 wx => ∃ X7, u7 = .pointer (some ⟨X7, 0, none⟩) ∧ u8 = .bool true ∧ Hid (Bx w wx b s s2 m X5 ∧ CellsR wx X7 [.string x.2.key, .string x.2.val, .int .i64 x.2.til, .int .i64 x.2.gra]))
  case first =>
    refine r_begin (S := Lru.Own b.B b.M s.l) (by kernel_rfl) ?_
    have HS := Lib.hid (Only.refl (Lru.Own b.B b.M s.l) w2)
    refine r_take 0 (.pointer (some ⟨b.C, 0, none⟩)) rfl (by kernel_rfl) (fun _ _ _ h => h) HS.out (YR.pure (by rfl) fun w hw => y_move w rfl rfl) ?_
    simp only [Act.put, List.setIfInBounds_toArray, List.set_cons_zero, List.set_cons_succ]
    refine r_take 1 (.pointer (some ⟨b.C, 0, none⟩)) rfl (by kernel_rfl) (fun _ _ _ h => h) HS.out (YR.pure (by rfl) fun w hw => y_nil w rfl rfl) ?_
    simp only [Act.put, List.setIfInBounds_toArray, List.set_cons_zero, List.set_cons_succ]
    refine r_take 2 (.pointer (some ⟨b.C, 15, none⟩)) rfl (by kernel_rfl) (fun _ _ _ h => h) HS.out (YR.pure (by rfl) fun w hw => y_f64_3 w rfl rfl) ?_
    simp only [Act.put, List.setIfInBounds_toArray, List.set_cons_zero, List.set_cons_succ]
    refine r_take 3 (.pointer (some ⟨b.B, 0, none⟩)) rfl (by kernel_rfl) (fun _ _ _ h => h) HS.out (YR.pure (by rfl) fun w hw => y_load56 rfl rfl ((HC.out w hw).is 15 _ rfl)) ?_
    simp only [Act.put, List.setIfInBounds_toArray, List.set_cons_zero, List.set_cons_succ]
    refine r_take 4 (.pointer (some ⟨X5, 7, none⟩)) rfl (by kernel_rfl) (fun _ _ _ h => h) HS.out (YR.pure (by rfl) fun w hw => y_f44_7 w rfl rfl) ?_
    simp only [Act.put, List.setIfInBounds_toArray, List.set_cons_zero, List.set_cons_succ]
    refine r_take 5 (.pointer (some ⟨X5, 8, none⟩)) rfl (by kernel_rfl) (fun _ _ _ h => h) HS.out (YR.pure (by rfl) fun w hw => y_f34_1 w rfl rfl) ?_
    simp only [Act.put, List.setIfInBounds_toArray, List.set_cons_zero, List.set_cons_succ]
    refine r_take 6 (.string m.key) rfl (by kernel_rfl) (fun _ _ _ h => h) HS.out (YR.pure (by rfl) fun w hw => y_load9 rfl rfl ((HM.out w hw).is 8 _ rfl)) ?_
    simp only [Act.put, List.setIfInBounds_toArray, List.set_cons_zero, List.set_cons_succ]
    refine r_take 7 (.pointer (some ⟨b.C, 0, none⟩)) rfl (by kernel_rfl) (fun _ _ _ h => h) HS.out (YR.pure (by rfl) fun w hw => y_move w rfl rfl) ?_
    simp only [Act.put, List.setIfInBounds_toArray, List.set_cons_zero, List.set_cons_succ]
    refine r_take 8 (.pointer (some ⟨b.C, 0, none⟩)) rfl (by kernel_rfl) (fun _ _ _ h => h) HS.out (YR.pure (by rfl) fun w hw => y_nil w rfl rfl) ?_
    simp only [Act.put, List.setIfInBounds_toArray, List.set_cons_zero, List.set_cons_succ]
    refine r_take 9 (.pointer (some ⟨b.C, 14, none⟩)) rfl (by kernel_rfl) (fun _ _ _ h => h) HS.out (YR.pure (by rfl) fun w hw => y_f64_2 w rfl rfl) ?_
    simp only [Act.put, List.setIfInBounds_toArray, List.set_cons_zero, List.set_cons_succ]
    refine r_take 10 (.int .i64 s.clock) rfl (by kernel_rfl) (fun _ _ _ h => h) HS.out (YR.pure (by rfl) fun w hw => y_load3 rfl rfl ((HC.out w hw).is 14 _ rfl)) ?_
    simp only [Act.put, List.setIfInBounds_toArray, List.set_cons_zero, List.set_cons_succ]
    refine r_two 11 15 rfl rfl (by kernel_rfl) (by rfl) (by rfl) (fun wi oi => ?_) (fun wi oi => ?_)
    · refine wp_enter (y_enter [.pointer (some ⟨b.B, 0, none⟩), .string m.key, .int .i64 s.clock] rfl (by rfl) (call36_ _) wi) ((HGET.out wi (HB2.out.on oi).did.at_).mono ?_)
      rintro e wj ⟨rfl, hd, oj⟩
      refine ⟨_, rfl, (HS.out.quiet oi).trans oj, ?_⟩
      simp only [Act.put, List.setIfInBounds_toArray, List.set_cons_zero, List.set_cons_succ]
      have HT := Lib.hid ((HS.out.quiet oi).trans oj)
      have HB3 := Lib.hid ((HB2.out.on oi).to hd)
      clear HS oi oj hd
      have HS := HT
      clear HT
      refine r_take 12 (.tuple #[.agg #[.string x.2.key, .string x.2.val, .int .i64 x.2.til, .int .i64 x.2.gra], .bool true]) rfl (by kernel_rfl) (fun _ _ _ h => h) HS.out (YR.pure (by rfl) fun w hw => y_move w rfl rfl) ?_
      simp only [Act.put, List.setIfInBounds_toArray, List.set_cons_zero, List.set_cons_succ]
      refine r_take 13 (.agg #[.string x.2.key, .string x.2.val, .int .i64 x.2.til, .int .i64 x.2.gra]) rfl (by kernel_rfl) (fun _ _ _ h => h) HS.out (YR.pure (by rfl) fun w hw => y_ext0 w rfl rfl) ?_
      simp only [Act.put, List.setIfInBounds_toArray, List.set_cons_zero, List.set_cons_succ]
      refine r_take 14 (.bool true) rfl (by kernel_rfl) (fun _ _ _ h => h) HS.out (YR.pure (by rfl) fun w hw => y_ext1 w rfl rfl) ?_
      simp only [Act.put, List.setIfInBounds_toArray, List.set_cons_zero, List.set_cons_succ]
      refine r_one 15 rfl (by kernel_rfl) (by rfl) fun wi oi => ?_
      refine wp_alloc (n := 4) rfl alloc66 rfl fun X7 wj hX hm oj => ⟨HS.out.quiet (oi.trans oj), ?_⟩
      simp only [Act.put, List.setIfInBounds_toArray, List.set_cons_zero, List.set_cons_succ]
      have HXX7 : Hid (_ ≤ X7) := Lib.hid (Nat.le_trans (HS.out.quiet oi).size (Nat.le_of_eq hX.symm))
      have HLX7 := Lib.hid (Lx.new HB3.out oi hX hm)
      have HB4 := Lib.hid (HB3.out.on (oi.trans oj))
      have HT := Lib.hid (HS.out.quiet (oi.trans oj))
      clear hm hX oi oj HS
      have HS := HT
      clear HT
      refine r_one 16 rfl (by kernel_rfl) (by rfl) fun wi oi => ?_
      refine wp_store_new (row := [.string x.2.key, .string x.2.val, .int .i64 x.2.til, .int .i64 x.2.gra]) rfl rfl rfl (HLX7.out.made.only oi fun e => e) size66 (by simp [Value.oneCell']) fun wj hc oj => ⟨(HS.out.quiet oi).trans2 oj (fun k hk e => by have := HXX7.out; omega), ?_⟩
      simp only [Act.put, List.setIfInBounds_toArray, List.set_cons_zero, List.set_cons_succ]
      have HCX7 := Lib.hid hc
      have HB5 := Lib.hid ((HB4.out.on oi).stored oj HLX7.out)
      have HT := Lib.hid ((HS.out.quiet oi).trans2 oj (fun k hk e => by have := HXX7.out; omega))
      clear hc oi oj HS
      have HS := HT
      clear HT
      refine r_take 17 (.bool true) rfl (by kernel_rfl) (fun _ _ _ h => h) HS.out (YR.pure (by rfl) fun w hw => y_assign w rfl rfl) ?_
      simp only [Act.put, List.setIfInBounds_toArray, List.set_cons_zero, List.set_cons_succ]
      refine r_done (by kernel_rfl) fun wz oz => ?_
      have HZ := Lib.hid (And.intro (HB5.out.on oz) (HCX7.out.kept oz fun e => e))
      clear oz
      go_wp2_with fail
      go_meet
      exact ⟨X7, rfl, rfl, HZ⟩
    · refine wp_alloc (n := 4) rfl alloc66 rfl fun X7 wj hX hm oj => ⟨HS.out.quiet (oi.trans oj), ?_⟩
      simp only [Act.put, List.setIfInBounds_toArray, List.set_cons_zero, List.set_cons_succ]
      have HXX7 : Hid (_ ≤ X7) := Lib.hid (Nat.le_trans (HS.out.quiet oi).size (Nat.le_of_eq hX.symm))
      have HLX7 := Lib.hid (Lx.new HB2.out oi hX hm)
      have HB3 := Lib.hid (HB2.out.on (oi.trans oj))
      have HT := Lib.hid (HS.out.quiet (oi.trans oj))
      clear hm hX oi oj HS
      have HS := HT
      clear HT
      refine r_one 11 rfl (by kernel_rfl) (by rfl) fun wi oi => ?_
      refine wp_enter (y_enter [.pointer (some ⟨b.B, 0, none⟩), .string m.key, .int .i64 s.clock] rfl (by rfl) (call36_ _) wi) ((HGET.out wi (HB3.out.on oi).did.at_).mono ?_)
      rintro e wj ⟨rfl, hd, oj⟩
      refine ⟨_, rfl, (HS.out.quiet oi).trans oj, ?_⟩
      simp only [Act.put, List.setIfInBounds_toArray, List.set_cons_zero, List.set_cons_succ]
      have HT := Lib.hid ((HS.out.quiet oi).trans oj)
      have HB4 := Lib.hid ((HB3.out.on oi).to hd)
      have HLT := Lib.hid ((HLX7.out.on oi).to hd)
      clear HLX7
      have HLX7 := HLT
      clear HLT
      clear HS oi oj hd
      have HS := HT
      clear HT
      refine r_take 12 (.tuple #[.agg #[.string x.2.key, .string x.2.val, .int .i64 x.2.til, .int .i64 x.2.gra], .bool true]) rfl (by kernel_rfl) (fun _ _ _ h => h) HS.out (YR.pure (by rfl) fun w hw => y_move w rfl rfl) ?_
      simp only [Act.put, List.setIfInBounds_toArray, List.set_cons_zero, List.set_cons_succ]
      refine r_take 13 (.agg #[.string x.2.key, .string x.2.val, .int .i64 x.2.til, .int .i64 x.2.gra]) rfl (by kernel_rfl) (fun _ _ _ h => h) HS.out (YR.pure (by rfl) fun w hw => y_ext0 w rfl rfl) ?_
      simp only [Act.put, List.setIfInBounds_toArray, List.set_cons_zero, List.set_cons_succ]
      refine r_take 14 (.bool true) rfl (by kernel_rfl) (fun _ _ _ h => h) HS.out (YR.pure (by rfl) fun w hw => y_ext1 w rfl rfl) ?_
      simp only [Act.put, List.setIfInBounds_toArray, List.set_cons_zero, List.set_cons_succ]
      refine r_one 16 rfl (by kernel_rfl) (by rfl) fun wi oi => ?_
      refine wp_store_new (row := [.string x.2.key, .string x.2.val, .int .i64 x.2.til, .int .i64 x.2.gra]) rfl rfl rfl (HLX7.out.made.only oi fun e => e) size66 (by simp [Value.oneCell']) fun wj hc oj => ⟨(HS.out.quiet oi).trans2 oj (fun k hk e => by have := HXX7.out; omega), ?_⟩
      simp only [Act.put, List.setIfInBounds_toArray, List.set_cons_zero, List.set_cons_succ]
      have HCX7 := Lib.hid hc
      have HB5 := Lib.hid ((HB4.out.on oi).stored oj HLX7.out)
      have HT := Lib.hid ((HS.out.quiet oi).trans2 oj (fun k hk e => by have := HXX7.out; omega))
      clear hc oi oj HS
      have HS := HT
      clear HT
      refine r_take 17 (.bool true) rfl (by kernel_rfl) (fun _ _ _ h => h) HS.out (YR.pure (by rfl) fun w hw => y_assign w rfl rfl) ?_
      simp only [Act.put, List.setIfInBounds_toArray, List.set_cons_zero, List.set_cons_succ]
      refine r_done (by kernel_rfl) fun wz oz => ?_
      have HZ := Lib.hid (And.intro (HB5.out.on oz) (HCX7.out.kept oz fun e => e))
      clear oz
      go_wp2_with fail
      go_meet
      exact ⟨X7, rfl, rfl, HZ⟩
  case rest =>
    obtain ⟨X7, rfl, rfl, HZ⟩ := hcut
    clear HC HM HB2 HGET
    go_upto_region 6 with fail
    have HA : Hid (∀ w', Only None' wc w' → CacheAt w' b s2) := Lib.hid fun w' o => HZ.out.1.did.at_.new o
    have HM : Hid (∀ w', Only None' wc w' → CellsR w' X5 m.row) := Lib.hid fun w' o => HZ.out.1.c5.kept o fun e => e
    have H7 : Hid (∀ w', Only None' wc w' → CellsR w' X7 [.string x.2.key, .string x.2.val, .int .i64 x.2.til, .int .i64 x.2.gra]) := Lib.hid fun w' o => HZ.out.2.kept o fun e => e
    refine r_begin (S := None') (by kernel_rfl) ?_
    have HS := Lib.hid (Only.refl (None') wc)
    refine r_take 0 (.pointer (some ⟨b.C, 0, none⟩)) rfl (by kernel_rfl) (fun _ _ _ h => h) HS.out (YR.pure (by rfl) fun w hw => y_move w rfl rfl) ?_
    simp only [Act.put, List.setIfInBounds_toArray, List.set_cons_zero, List.set_cons_succ]
    refine r_take 1 (.int .i64 m.client) rfl (by kernel_rfl) (fun _ _ _ h => h) HS.out (YR.pure (by rfl) fun w hw => y_move w rfl rfl) ?_
    simp only [Act.put, List.setIfInBounds_toArray, List.set_cons_zero, List.set_cons_succ]
    refine r_take 2 (.pointer (some ⟨b.C, 0, none⟩)) rfl (by kernel_rfl) (fun _ _ _ h => h) HS.out (YR.pure (by rfl) fun w hw => y_move w rfl rfl) ?_
    simp only [Act.put, List.setIfInBounds_toArray, List.set_cons_zero, List.set_cons_succ]
    refine r_take 3 (.pointer (some ⟨X5, 7, none⟩)) rfl (by kernel_rfl) (fun _ _ _ h => h) HS.out (YR.pure (by rfl) fun w hw => y_f44_7 w rfl rfl) ?_
    simp only [Act.put, List.setIfInBounds_toArray, List.set_cons_zero, List.set_cons_succ]
    refine r_take 4 (.pointer (some ⟨X5, 8, none⟩)) rfl (by kernel_rfl) (fun _ _ _ h => h) HS.out (YR.pure (by rfl) fun w hw => y_f34_1 w rfl rfl) ?_
    simp only [Act.put, List.setIfInBounds_toArray, List.set_cons_zero, List.set_cons_succ]
    refine r_take 5 (.string m.key) rfl (by kernel_rfl) (fun _ _ _ h => h) HS.out (YR.pure (by rfl) fun w hw => y_load9 rfl rfl ((HM.out w hw).is 8 _ rfl)) ?_
    simp only [Act.put, List.setIfInBounds_toArray, List.set_cons_zero, List.set_cons_succ]
    refine r_take 6 (.int .i64 0) rfl (by kernel_rfl) (fun _ _ _ h => h) HS.out (YR.call (by rfl) (fun w => y_enter [.pointer (some ⟨b.C, 0, none⟩), .string m.key] rfl (by rfl) (call38_ _) w) fun w hw => place38_any (HA.out w hw).cells.c3 m.key HKS.out) ?_
    simp only [Act.put, List.setIfInBounds_toArray, List.set_cons_zero, List.set_cons_succ]
    refine r_take 7 (.pointer (some ⟨X5, 4, none⟩)) rfl (by kernel_rfl) (fun _ _ _ h => h) HS.out (YR.pure (by rfl) fun w hw => y_f44_4 w rfl rfl) ?_
    simp only [Act.put, List.setIfInBounds_toArray, List.set_cons_zero, List.set_cons_succ]
    refine r_take 8 (.int .i64 m.req) rfl (by kernel_rfl) (fun _ _ _ h => h) HS.out (YR.pure (by rfl) fun w hw => y_load3 rfl rfl ((HM.out w hw).is 4 _ rfl)) ?_
    simp only [Act.put, List.setIfInBounds_toArray, List.set_cons_zero, List.set_cons_succ]
    refine r_take 9 (.pointer (some ⟨X7, 1, none⟩)) rfl (by kernel_rfl) (fun _ _ _ h => h) HS.out (YR.pure (by rfl) fun w hw => y_f66_1 w rfl rfl) ?_
    simp only [Act.put, List.setIfInBounds_toArray, List.set_cons_zero, List.set_cons_succ]
    refine r_take 10 (.string x.2.val) rfl (by kernel_rfl) (fun _ _ _ h => h) HS.out (YR.pure (by rfl) fun w hw => y_load9 rfl rfl ((H7.out w hw).is 1 _ rfl)) ?_
    simp only [Act.put, List.setIfInBounds_toArray, List.set_cons_zero, List.set_cons_succ]
    refine r_take 11 (resV 1 true x.2.val) rfl (by kernel_rfl) (fun _ _ _ h => h) HS.out (YR.pure (by rfl) fun w hw => y_build w rfl (by kernel_rfl)) ?_
    simp only [Act.put, List.setIfInBounds_toArray, List.set_cons_zero, List.set_cons_succ]
    refine r_take 12 (.agg (Mg.row { kind := 11, req := m.req, rk := 1, rf := true, rv := x.2.val }).toArray) rfl (by kernel_rfl) (fun _ _ _ h => h) HS.out (YR.pure (by rfl) fun w hw => y_build w rfl (by kernel_rfl)) ?_
    simp only [Act.put, List.setIfInBounds_toArray, List.set_cons_zero, List.set_cons_succ]
    refine r_one 13 rfl (by kernel_rfl) (by rfl) fun wi oi => ?_
    refine wp_enter (y_enter [.pointer (some ⟨b.C, 0, none⟩), .int .i64 m.client, Mg.v { kind := 11, req := m.req, rk := 1, rf := true, rv := x.2.val }] rfl (by rfl) (call37_ _) wi) ((mail_any (HA.out _ (HS.out.trans oi)).cells.c13 (HA.out _ (HS.out.trans oi)).cells.lt m.client { kind := 11, req := m.req, rk := 1, rf := true, rv := x.2.val }).mono ?_)
    rintro e wj ⟨v, R, rfl, hm, hR, oj⟩
    refine ⟨_, rfl, HS.out.trans (oi.trans oj), ?_⟩
    simp only [Act.put, List.setIfInBounds_toArray, List.set_cons_zero, List.set_cons_succ]
    have HT := Lib.hid (HS.out.trans (oi.trans oj))
    have HD3 := Lib.hid (And.intro (HZ.out.1.did.new HT.out) (And.intro hm (And.intro (Nat.le_trans (HZ.out.1.did.new (HS.out.trans oi)).kept.only.size hR) ((HA.out _ (HS.out.trans oi)).not_own hR))))
    clear HS oi oj hm hR
    have HS := HT
    clear HT
    refine r_take 14 (v) rfl (by kernel_rfl) (fun _ _ _ h => h) HS.out (YR.pure (by rfl) fun w hw => y_assign w rfl rfl) ?_
    simp only [Act.put, List.setIfInBounds_toArray, List.set_cons_zero, List.set_cons_succ]
    refine r_done (by kernel_rfl) fun wz oz => ?_
    have HQ := Lib.hid oz
    clear oz
    go_wp2_with fail
    go_ret
    obtain ⟨hd, hm, hR, hN⟩ := HD3.out
    rw [← HS2.out]
    exact ⟨v, rfl, ⟨R, hm.only HQ.out fun e => e, hR, hN⟩, hd.new HQ.out⟩
end Go.Proofs.Ytfmpidacklhmaaa
