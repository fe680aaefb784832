/- forward (41). (Printed by tp.py.) -/
import Derived.Test.YtfmpidacklhmaaaAE
namespace Go.Proofs.Ytfmpidacklhmaaa
open Go.RowKit Go.Maps
set_option linter.unusedVariables false
set_option linter.unusedSimpArgs false
set_option maxRecDepth 20000

/-- an answer: none, or one mail in a block of its own -/
def Told (w w' : World) (b : Bk) (s' : Cs) (v : Value) : Option (Int × Mg) → Prop
  | none => v = .slice none 0 0
  | some q => ∃ R, MailAt w' v R q.1 q.2 ∧ w.heap.size ≤ R ∧ ¬ b.own s'.l R
def Cs.fwd (s : Cs) (x : Wt) : Cs := { s with f := fun j => if j = x.req then ⟨(s.f x.req).op, s.ow == 0⟩ else s.f j, n := s.n + 1, at_ := if s.ow = 0 then 1 else s.at_ }
def Cs.fwdMail (s : Cs) (x : Wt) : Int × Mg := if s.ow = 0 then (1, { kind := 8, req := x.req }) else (s.ow, { kind := if (s.f x.req).op.kind = 1 then 12 else 14, epoch := s.ep, req := x.req, client := x.client, id := x.id, op := (s.f x.req).op.kind, key := (s.f x.req).op.key, val := (s.f x.req).op.val, old := (s.f x.req).op.old, had := (s.f x.req).op.had })
/-- what forward has learned behind its first region -/
structure F1 (w w1 wz : World) (b : Bk) (s : Cs) (x : Wt) (X3 X5 : Nat) : Prop where
  only : Only None' w wz
  at_ : CacheAt wz b s
  c3 : CellsR wz X3 x.row
  c5 : CellsR wz X5 (s.f x.req).row
  n3 : w.heap.size ≤ X3
  n5 : w.heap.size ≤ X5
theorem F1.on {w w1 wz wy : World} {b : Bk} {s : Cs} {x : Wt} {X3 X5 : Nat} (h : F1 w w1 wz b s x X3 X5) (o : Only None' wz wy) : F1 w w1 wy b s x X3 X5 :=
  ⟨h.only.trans o, h.at_.new o, h.c3.kept o fun e => e, h.c5.kept o fun e => e, h.n3, h.n5⟩
/-- behind the map's store -/
structure F2 (w wz : World) (b : Bk) (s s1 : Cs) (x : Wt) (X3 X5 : Nat) : Prop where
  did : Did b s s1 w wz
  c3 : CellsR wz X3 x.row
  c5 : CellsR wz X5 (s.f x.req).row
  n3 : w.heap.size ≤ X3
theorem F2.on {w wz wy : World} {b : Bk} {s s1 : Cs} {x : Wt} {X3 X5 : Nat} (h : F2 w wz b s s1 x X3 X5) (o : Only None' wz wy) : F2 w wy b s s1 x X3 X5 :=
  ⟨h.did.new o, h.c3.kept o fun e => e, h.c5.kept o fun e => e, h.n3⟩
theorem CacheAt.not_own {w : World} {b : Bk} {s : Cs} (h : CacheAt w b s) {k : Nat} (hk : w.heap.size ≤ k) : ¬ b.own s.l k := fun e => by have := h.lt e; omega
set_option maxHeartbeats 1000000 in
theorem fwd_any {w : World} {b : Bk} {s : Cs} (h : CacheAt w b s) (x : Wt) (hx : (Lit.int .i64 x.req).wf = true) (hk : x.key.size ≤ 1000000) (hn : s.n ≤ 1000000) (hat : s.ow = 0 → s.at_ = 0) :
    Calls Try.prog 41 #[.pointer (some ⟨b.C, 0, none⟩), x.v] w fun e w' => ∃ v, e = .returned v ∧ Told w w' b (s.fwd x) v (some (s.fwdMail x)) ∧ Did b s (s.fwd x) w w' := by
  have H := Lib.hid h
  have HX := Lib.hid hx
  have HK := Lib.hid hk
  have HN := Lib.hid hn
  have HAT := Lib.hid hat
  unfold Wt.v
  clear h hx hk hn hat
  go_enter Try.func41, Try.ntmps41
  go_upto_region 1 with fail
  generalize hX : w.heap.size = X3
  generalize hw1 : w.alloc _ = w1
  have c3 : CellsR w1 X3 x.row := by rw [← hw1, ← hX]; exact cells_new w x.row 74
  have o1 : Only None' w w1 := by rw [← hw1]; exact (Only.refl None' w).alloc _
  have HA : Hid (∀ w', Only None' w1 w' → CacheAt w' b s) := Lib.hid fun w' o => H.out.new (o1.trans o)
  have H3 : Hid (∀ w', Only None' w1 w' → CellsR w' X3 x.row) := Lib.hid fun w' o => c3.kept o fun e => e
  have O1 := Lib.hid (And.intro o1 hX)
  clear c3 o1 hw1 hX
  refine r_begin (S := None') (by kernel_rfl) ?_
  have HS := Lib.hid (Only.refl (None') w1)
  refine r_take 0 (.pointer (some ⟨b.C, 0, none⟩)) rfl (by kernel_rfl) (fun _ _ _ h => h) HS.out (YR.pure (by rfl) fun w hw => y_move w rfl rfl) ?_
  simp only [Act.put, List.setIfInBounds_toArray, List.set_cons_zero, List.set_cons_succ]
  refine r_take 1 (.pointer (some ⟨b.C, 0, none⟩)) rfl (by kernel_rfl) (fun _ _ _ h => h) HS.out (YR.pure (by rfl) fun w hw => y_nil w rfl rfl) ?_
  simp only [Act.put, List.setIfInBounds_toArray, List.set_cons_zero, List.set_cons_succ]
  refine r_take 2 (.pointer (some ⟨b.C, 18, none⟩)) rfl (by kernel_rfl) (fun _ _ _ h => h) HS.out (YR.pure (by rfl) fun w hw => y_f64_6 w rfl rfl) ?_
  simp only [Act.put, List.setIfInBounds_toArray, List.set_cons_zero, List.set_cons_succ]
  refine r_take 3 (.map (some b.Ma)) rfl (by kernel_rfl) (fun _ _ _ h => h) HS.out (YR.pure (by rfl) fun w hw => y_load62 rfl rfl ((HA.out w hw).cells.c18)) ?_
  simp only [Act.put, List.setIfInBounds_toArray, List.set_cons_zero, List.set_cons_succ]
  refine r_take 4 (.pointer (some ⟨X3, 0, none⟩)) rfl (by kernel_rfl) (fun _ _ _ h => h) HS.out (YR.pure (by rfl) fun w hw => y_f74_0 w rfl rfl) ?_
  simp only [Act.put, List.setIfInBounds_toArray, List.set_cons_zero, List.set_cons_succ]
  refine r_take 5 (.int .i64 x.req) rfl (by kernel_rfl) (fun _ _ _ h => h) HS.out (YR.pure (by rfl) fun w hw => y_load3 rfl rfl ((H3.out w hw).is 0 _ rfl)) ?_
  simp only [Act.put, List.setIfInBounds_toArray, List.set_cons_zero, List.set_cons_succ]
  refine r_take 6 ((s.f x.req).v) rfl (by kernel_rfl) (fun _ _ _ h => h) HS.out (YR.pure (by rfl) fun w hw => y_look62 rfl rfl rfl (HA.out w hw).asked HX.out) ?_
  simp only [Act.put, List.setIfInBounds_toArray, List.set_cons_zero, List.set_cons_succ]
  refine r_one 7 rfl (by kernel_rfl) (by rfl) fun wi oi => ?_
  refine wp_alloc (n := 6) rfl alloc101 rfl fun X5 wj hX5 hm oj => ⟨HS.out.quiet (oi.trans oj), ?_⟩
  simp only [Act.put, List.setIfInBounds_toArray, List.set_cons_zero, List.set_cons_succ]
  have HMX5 := Lib.hid hm
  have HXX5 : Hid (_ ≤ X5) := Lib.hid (Nat.le_trans (HS.out.quiet oi).size (Nat.le_of_eq hX5.symm))
  have HT := Lib.hid (HS.out.quiet (oi.trans oj))
  clear hm hX5 oi oj HS
  have HS := HT
  clear HT
  refine r_one 8 rfl (by kernel_rfl) (by rfl) fun wi oi => ?_
  refine wp_store_new (row := (s.f x.req).row) rfl rfl rfl (HMX5.out.only oi fun e => e) size101 (Ak.row_one _) fun wj hc oj => ⟨(HS.out.quiet oi).trans2 oj (fun k hk e => by have := HXX5.out; omega), ?_⟩
  simp only [Act.put, List.setIfInBounds_toArray, List.set_cons_zero, List.set_cons_succ]
  have HCX5 := Lib.hid hc
  have HT := Lib.hid ((HS.out.quiet oi).trans2 oj (fun k hk e => by have := HXX5.out; omega))
  clear hc oi oj HS
  have HS := HT
  clear HT
  refine r_done (by kernel_rfl) fun wz oz => ?_
  have HF : Hid (F1 w w1 wz b s x X3 X5) := Lib.hid ⟨O1.out.1.trans (HS.out.trans oz), HA.out _ (HS.out.trans oz), H3.out _ (HS.out.trans oz), HCX5.out.kept oz fun e => e, Nat.le_of_eq O1.out.2, Nat.le_trans O1.out.1.size HXX5.out⟩
  clear HS HA H3 O1 HMX5 HCX5 HXX5 oz
  have k1 := HF.out.c3.is 1 _ rfl
  go_wp2_with fail
  refine (place38_any HF.out.at_.cells.c3 x.key HK.out).mono ?_
  rintro e w2 ⟨rfl, o2⟩
  have HF2 := Lib.hid (HF.out.on o2)
  clear HF k1 o2
  have c16 := HF2.out.at_.cells.c16
  go_wp2_with fail
  refine (owner_any HF2.out.at_.route).mono ?_
  rintro e w3 ⟨rfl, o3⟩
  have HF3 := Lib.hid (HF2.out.on o3)
  clear HF2 c16 o3
  have c18 := HF3.out.at_.cells.c18
  have k0 := HF3.out.c3.is 0 _ rfl
  have q0 := HF3.out.c5.is 0 _ rfl
  have q1 := HF3.out.c5.is 1 _ rfl
  have q2 := HF3.out.c5.is 2 _ rfl
  have q3 := HF3.out.c5.is 3 _ rfl
  have q4 := HF3.out.c5.is 4 _ rfl
  obtain ⟨D, hD, hat⟩ := HF3.out.at_.asked.map
  have HD := Lib.hid (And.intro hD hat)
  clear hD hat
  go_wp2_with fail
  go_still_tail 11, (by kernel_rfl)
  refine wpList_mapUpdate_in _ rfl _ _ _ 62 rfl 3 101 keyed3 under62 akR b.Ma _ D rfl (HD.out.1.drew) (by have := HN.out; unfold maxLen; omega) (.int .i64 x.req) _ (.int .i64 x.req) rfl rfl (keyOf_int_mk Try.underlying3 HX.out) (Ak.mk (s.f x.req).op (s.ow == 0)).d [] rfl ?_
  intro w4 ho4 ht4
  have HG : Hid (F2 w w4 b s { s with f := fun j => if j = x.req then Ak.mk (s.f x.req).op (s.ow == 0) else s.f j, n := s.n + 1 } x X3 X5) := Lib.hid (by
    have o4 : Only (fun j => j = b.Ma) w3 w4 := (Only.drew (Only.refl _ _)).turned ht4 rfl
    have a4 : AskedAt w4 b.Ma (fun j => if j = x.req then Ak.mk (s.f x.req).op (s.ow == 0) else s.f j) (s.n + 1) := asked_put (D := D) (x := Ak.mk (s.f x.req).op (s.ow == 0)) ⟨_, _, HD.out.1⟩ HD.out.2 HX.out ho4
    have l := H.out.lt (k := b.Ma) (.inr (.inr (.inr (.inr (.inl rfl)))))
    have h3 := HF3.out.n3
    have h5 := HF3.out.n5
    exact ⟨(H.out.did.new HF3.out.only).trans (HF3.out.at_.asked_to a4 o4), HF3.out.c3.kept o4 (by omega), HF3.out.c5.kept o4 (by omega), h3⟩)
  obtain ⟨s1, hs1⟩ : ∃ s1 : Cs, s1 = { s with f := fun j => if j = x.req then Ak.mk (s.f x.req).op (s.ow == 0) else s.f j, n := s.n + 1 } := ⟨_, rfl⟩
  rw [← hs1] at HG
  have HS1 := Lib.hid hs1
  clear hs1 HF3 ht4 ho4 HD c18 k0 q0 q1 q2 q3 q4
  by_cases how : s.ow = 0
  · have d1 : (s.ow == 0) = true := by rw [how]; rfl
    have HOW := Lib.hid how
    have HAT2 := Lib.hid (HAT.out how)
    clear how
    go_upto_region 6 with fail
    have hs1 : s1.at_ = 0 ∧ s1.ow = s.ow ∧ s1.ep = s.ep := by rw [HS1.out]; exact ⟨HAT2.out, rfl, rfl⟩
    have HS2 := Lib.hid hs1
    have lR : b.R < w4.heap.size := HG.out.did.at_.lt (.inr (.inr (.inr (.inr (.inr (.inl rfl))))))
    have nR : ¬ w.heap.size ≤ b.R := by have := H.out.lt (k := b.R) (.inr (.inr (.inr (.inr (.inr (.inl rfl)))))); omega
    have aR := HG.out.did.at_.apart
    have HC : Hid (∀ w', Only (fun k => k = b.R) w4 w' → CellsR w' b.C (cacheR b s1.clock)) := Lib.hid fun w' o => HG.out.did.at_.blk.kept o (by omega)
    have H3 : Hid (∀ w', Only (fun k => k = b.R) w4 w' → CellsR w' X3 x.row) := Lib.hid fun w' o => HG.out.c3.kept o (by have := HG.out.n3; omega)
    clear hs1 lR nR aR d1
    refine r_begin (S := fun k => k = b.R) (by kernel_rfl) ?_
    have HS := Lib.hid (Only.refl (fun k => k = b.R) w4)
    refine r_take 0 (.pointer (some ⟨b.C, 0, none⟩)) rfl (by kernel_rfl) (fun _ _ _ h => h) HS.out (YR.pure (by rfl) fun w hw => y_move w rfl rfl) ?_
    simp only [Act.put, List.setIfInBounds_toArray, List.set_cons_zero, List.set_cons_succ]
    refine r_take 1 (.pointer (some ⟨b.C, 0, none⟩)) rfl (by kernel_rfl) (fun _ _ _ h => h) HS.out (YR.pure (by rfl) fun w hw => y_move w rfl rfl) ?_
    simp only [Act.put, List.setIfInBounds_toArray, List.set_cons_zero, List.set_cons_succ]
    refine r_take 2 (.pointer (some ⟨b.C, 0, none⟩)) rfl (by kernel_rfl) (fun _ _ _ h => h) HS.out (YR.pure (by rfl) fun w hw => y_nil w rfl rfl) ?_
    simp only [Act.put, List.setIfInBounds_toArray, List.set_cons_zero, List.set_cons_succ]
    refine r_take 3 (.pointer (some ⟨b.C, 16, none⟩)) rfl (by kernel_rfl) (fun _ _ _ h => h) HS.out (YR.pure (by rfl) fun w hw => y_f64_4 w rfl rfl) ?_
    simp only [Act.put, List.setIfInBounds_toArray, List.set_cons_zero, List.set_cons_succ]
    refine r_take 4 (.pointer (some ⟨b.R, 0, none⟩)) rfl (by kernel_rfl) (fun _ _ _ h => h) HS.out (YR.pure (by rfl) fun w hw => y_load59 rfl rfl ((HC.out w hw).is 16 _ rfl)) ?_
    simp only [Act.put, List.setIfInBounds_toArray, List.set_cons_zero, List.set_cons_succ]
    refine r_take 6 (.int .i64 0) rfl (by kernel_rfl) (fun _ _ _ h => h) HS.out (YR.pure (by rfl) fun w hw => y_move w rfl rfl) ?_
    simp only [Act.put, List.setIfInBounds_toArray, List.set_cons_zero, List.set_cons_succ]
    refine r_take 7 (.pointer (some ⟨X3, 0, none⟩)) rfl (by kernel_rfl) (fun _ _ _ h => h) HS.out (YR.pure (by rfl) fun w hw => y_f74_0 w rfl rfl) ?_
    simp only [Act.put, List.setIfInBounds_toArray, List.set_cons_zero, List.set_cons_succ]
    refine r_take 8 (.int .i64 x.req) rfl (by kernel_rfl) (fun _ _ _ h => h) HS.out (YR.pure (by rfl) fun w hw => y_load3 rfl rfl ((H3.out w hw).is 0 _ rfl)) ?_
    simp only [Act.put, List.setIfInBounds_toArray, List.set_cons_zero, List.set_cons_succ]
    refine r_take 9 (.agg (Mg.row { kind := 8, req := x.req }).toArray) rfl (by kernel_rfl) (fun _ _ _ h => h) HS.out (YR.pure (by rfl) fun w hw => y_build w rfl (by kernel_rfl)) ?_
    simp only [Act.put, List.setIfInBounds_toArray, List.set_cons_zero, List.set_cons_succ]
    refine r_one 5 rfl (by kernel_rfl) (by rfl) fun wi oi => ?_
    refine wp_enter (y_enter [.pointer (some ⟨b.R, 0, none⟩)] rfl (by rfl) (call54_ _) wi) ((turn_any (HG.out.did.at_.new oi).route HS2.out.1).mono ?_)
    rintro e wj ⟨rfl, hr, oj⟩
    refine ⟨_, rfl, (HS.out.quiet oi).trans oj, ?_⟩
    simp only [Act.put, List.setIfInBounds_toArray, List.set_cons_zero, List.set_cons_succ]
    have HT := Lib.hid ((HS.out.quiet oi).trans oj)
    have HD2 := Lib.hid ((HG.out.did.new oi).trans ((HG.out.did.new oi).at_.route_to hr (oj.mono fun _ _ e => .inl e)))
    clear HS oi oj hr
    have HS := HT
    clear HT
    refine r_one 10 rfl (by kernel_rfl) (by rfl) fun wi oi => ?_
    refine wp_enter (y_enter [.pointer (some ⟨b.C, 0, none⟩), .int .i64 1, Mg.v { kind := 8, req := x.req }] rfl (by rfl) (call37_ _) wi) ((mail_any ((HC.out _ (HS.out.quiet oi)).is 13 _ rfl) (HC.out _ (HS.out.quiet oi)).lt 1 { kind := 8, req := x.req }).mono ?_)
    rintro e wj ⟨v, R, rfl, hm, hR, oj⟩
    refine ⟨_, rfl, HS.out.quiet (oi.trans oj), ?_⟩
    simp only [Act.put, List.setIfInBounds_toArray, List.set_cons_zero, List.set_cons_succ]
    have HT := Lib.hid (HS.out.quiet (oi.trans oj))
    have HD3 := Lib.hid (And.intro (HD2.out.new (oi.trans oj)) (And.intro hm (And.intro (Nat.le_trans HD2.out.kept.only.size (Nat.le_trans oi.size hR)) (HD2.out.at_.not_own (Nat.le_trans oi.size hR)))))
    clear HS oi oj hm hR
    have HS := HT
    clear HT
    refine r_take 11 (v) rfl (by kernel_rfl) (fun _ _ _ h => h) HS.out (YR.pure (by rfl) fun w hw => y_assign w rfl rfl) ?_
    simp only [Act.put, List.setIfInBounds_toArray, List.set_cons_zero, List.set_cons_succ]
    refine r_done (by kernel_rfl) fun wz oz => ?_
    have HZ := Lib.hid oz
    clear oz
    go_wp2_with fail
    go_ret
    have e1 : s.fwd x = { s1 with at_ := 1, ow := s1.ow, ep := s1.ep } := by rw [HS1.out]; unfold Cs.fwd; rw [if_pos HOW.out]
    have e2 : s.fwdMail x = (1, { kind := 8, req := x.req }) := by unfold Cs.fwdMail; rw [if_pos HOW.out]
    obtain ⟨hd, hm, hR, hN⟩ := HD3.out
    rw [e1, e2]
    exact ⟨v, rfl, ⟨R, hm.only HZ.out fun e => e, hR, hN⟩, hd.new HZ.out⟩
  · have d1 : (s.ow == 0) = false := by rw [beq_eq_false_iff_ne]; exact how
    have E1 : Hid (s.fwd x = s1) := Lib.hid (by rw [HS1.out]; unfold Cs.fwd; rw [if_neg how])
    have E2 : Hid (s.fwdMail x = (s.ow, { kind := if (s.f x.req).op.kind = 1 then 12 else 14, epoch := s.ep, req := x.req, client := x.client, id := x.id, op := (s.f x.req).op.kind, key := (s.f x.req).op.key, val := (s.f x.req).op.val, old := (s.f x.req).op.old, had := (s.f x.req).op.had })) := Lib.hid (by unfold Cs.fwdMail; rw [if_neg how])
    have q0 := HG.out.c5.is 0 _ rfl
    have q1 := HG.out.c5.is 1 _ rfl
    have q2 := HG.out.c5.is 2 _ rfl
    have q3 := HG.out.c5.is 3 _ rfl
    have q4 := HG.out.c5.is 4 _ rfl
    have k0 := HG.out.c3.is 0 _ rfl
    have k2 := HG.out.c3.is 2 _ rfl
    have k3 := HG.out.c3.is 3 _ rfl
    clear how
    by_cases hk : (s.f x.req).op.kind = 1
    · have d2 : ((s.f x.req).op.kind == 1) = true := by rw [hk]; rfl
      rw [if_pos hk] at E2
      clear hk
      go_wp2_with fail
      refine (mail_any HG.out.did.at_.cells.c13 HG.out.did.at_.cells.lt s.ow { kind := 12, epoch := s.ep, req := x.req, client := x.client, id := x.id, op := (s.f x.req).op.kind, key := (s.f x.req).op.key, val := (s.f x.req).op.val, old := (s.f x.req).op.old, had := (s.f x.req).op.had }).mono ?_
      rintro e w5 ⟨v, R, rfl, hm, hR, o5⟩
      have HE := Lib.hid (And.intro hm (And.intro hR o5))
      clear hm hR o5 q0 q1 q2 q3 q4 k0 k2 k3
      go_wp2_with fail
      go_ret
      rw [E1.out, E2.out]
      exact ⟨v, rfl, ⟨R, HE.out.1, Nat.le_trans HG.out.did.kept.only.size HE.out.2.1, HG.out.did.at_.not_own HE.out.2.1⟩, HG.out.did.new HE.out.2.2⟩
    · have d2 : ((s.f x.req).op.kind == 1) = false := by rw [beq_eq_false_iff_ne]; exact hk
      rw [if_neg hk] at E2
      clear hk
      go_wp2_with fail
      refine (mail_any HG.out.did.at_.cells.c13 HG.out.did.at_.cells.lt s.ow { kind := 14, epoch := s.ep, req := x.req, client := x.client, id := x.id, op := (s.f x.req).op.kind, key := (s.f x.req).op.key, val := (s.f x.req).op.val, old := (s.f x.req).op.old, had := (s.f x.req).op.had }).mono ?_
      rintro e w5 ⟨v, R, rfl, hm, hR, o5⟩
      have HE := Lib.hid (And.intro hm (And.intro hR o5))
      clear hm hR o5 q0 q1 q2 q3 q4 k0 k2 k3
      go_wp2_with fail
      go_ret
      rw [E1.out, E2.out]
      exact ⟨v, rfl, ⟨R, HE.out.1, Nat.le_trans HG.out.did.kept.only.size HE.out.2.1, HG.out.did.at_.not_own HE.out.2.1⟩, HG.out.did.new HE.out.2.2⟩
end Go.Proofs.Ytfmpidacklhmaaa
