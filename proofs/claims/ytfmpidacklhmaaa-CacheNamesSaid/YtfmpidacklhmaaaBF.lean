/- AK + AL in one text. -/
import Derived.Test.YtfmpidacklhmaaaAJ
/- The shelf's turns as the cache's; inval (27). (Printed by tp.py.) -/
namespace Go.Proofs.Ytfmpidacklhmaaa
open Go.RowKit Go.Maps
set_option linter.unusedVariables false
set_option linter.unusedSimpArgs false
set_option maxRecDepth 20000

theorem nums_filter {l : List Lru.Node} {p : Lru.Node → Bool} {k : Nat} (h : k ∈ Lru.nums (l.filter p)) : k ∈ Lru.nums l := by
  obtain ⟨y, hy, rfl⟩ := List.mem_map.1 h
  exact List.mem_map.2 ⟨y, (List.mem_filter.1 hy).1, rfl⟩
section
variable {w : World} {b : Bk} {s : Cs}
theorem drop_c (h : CacheAt w b s) (k : ByteArray) (hk : k.size ≤ 140737488355328) : Calls Try.prog 47 #[.pointer (some ⟨b.B, 0, none⟩), .string k] w fun r w' => r = .returned (.bool (Lru.hasKey s.l k)) ∧ Did b s { s with l := Lru.dropKey s.l k } w w' ∧ Only (Lru.Own b.B b.M s.l) w w' :=
  (Lru.drop_any h.shelf k hk).mono fun r w' h' => ⟨h'.1, h.shelf_to h'.2.1 h'.2.2 fun k hk => .inl (nums_filter hk), ofLru h'.2.2⟩
theorem sweep_c (h : CacheAt w b s) (now : Int) : Calls Try.prog 20 #[.pointer (some ⟨b.B, 0, none⟩), .int .i64 now] w fun r w' => r = .returned (.int .i64 (Lru.gone now s.l : Int)) ∧ Did b s { s with l := Lru.live now s.l } w w' ∧ Only (Lru.Own b.B b.M s.l) w w' :=
  (Lru.sweep_any h.shelf now).mono fun r w' h' => ⟨h'.1, h.shelf_to h'.2.1 h'.2.2 fun k hk => .inl (nums_filter hk), ofLru h'.2.2⟩
theorem put_c (h : CacheAt w b s) (hl : s.l = []) (e : Lru.Ent) (hs : e.key.size + e.val.size ≤ 1000) : Calls Try.prog 45 #[.pointer (some ⟨b.B, 0, none⟩), .agg #[.string e.key, .string e.val, .int .i64 e.til, .int .i64 e.gra]] w fun r w' => r = .returned (.int .i64 0) ∧ ∃ x, Did b s { s with l := [(x, e)] } w w' ∧ Only (Lru.Own b.B b.M s.l) w w' := by
  have hm : b.m ≤ w.heap.size := Nat.le_trans h.shelf.row.mB (Nat.le_of_lt h.shelf.row.ltB)
  refine (Lru.put_fits h.shelf hm e (by omega) (by omega) (by omega) (by decide) (by omega) (decide_eq_false (by omega)) (by rw [hl]; decide)).mono ?_
  rintro r w' ⟨rfl, x, hx, h1, h2⟩
  have e1 : Lru.evict 10 1000 (Lru.dropKey s.l e.key ++ [(x, e)]) = [(x, e)] := by
    rw [hl]
    refine Lru.evict_fits ?_
    simp only [Lru.over, Lru.bytesOf, Lru.dropKey, List.filter_nil, List.nil_append, List.length_singleton, List.map_cons, List.map_nil, List.sum_cons, List.sum_nil, Bool.or_eq_false_iff, decide_eq_false_iff_not]
    exact ⟨decide_eq_false (by omega), by omega⟩
  rw [e1] at h1
  refine ⟨rfl, x, h.shelf_to h1 h2 fun k hk => .inr ?_, ofLru h2⟩
  have hk : k = x := List.mem_singleton.1 hk
  rw [hk]
  exact hx
theorem mark_c (h : CacheAt w b s) (k : ByteArray) : ∃ v, Calls Try.prog 46 #[.pointer (some ⟨b.Bc, 0, none⟩), .string k] w fun r w' => r = .returned v ∧ Did b s { s with c := s.c.mark k } w w' ∧ Only (fun k => k = b.Mc) w w' :=
  ⟨_, (mark_any h.calls k).mono fun r w' h' => ⟨h'.1, h.calls_to h'.2.1 (h'.2.2.mono fun _ _ e => .inr e), h'.2.2⟩⟩
end
set_option maxHeartbeats 1000000 in
theorem hinval_any {w : World} {b : Bk} (s : Cs) (h : CacheAt w b s) (m : Mg) (from_ : Int) (hks : m.key.size ≤ 1000000) :
    Calls Try.prog 27 #[.pointer (some ⟨b.C, 0, none⟩), .int .i64 from_, m.v] w fun e w' => ∃ v, e = .returned v ∧ Told w w' b { s with l := Lru.dropKey s.l m.key, c := s.c.mark m.key } v (some (from_, { kind := 17, shard := m.shard, key := m.key, grant := m.grant })) ∧ Did b s { s with l := Lru.dropKey s.l m.key, c := s.c.mark m.key } w w' := by
  have H := Lib.hid h
  have HKS := Lib.hid hks
  unfold Mg.v
  clear h hks
  go_enter Try.func27, Try.ntmps27
  go_upto_region 1 with fail
  generalize hX : w.heap.size = X5
  generalize hw1 : w.alloc _ = w1
  have HB : Hid (Bx w w1 b s s m X5) := Lib.hid (by
    have o1 : Only None' w w1 := by rw [← hw1]; exact (Only.refl None' w).alloc _
    rw [← hX]
    exact bx_new H.out m o1 (by rw [← hw1]; exact cells_new w m.row 44))
  clear hX hw1
  have HC : Hid (∀ w', Only (Lru.Own b.B b.M s.l) w1 w' → CellsR w' b.C (cacheR b s.clock)) := Lib.hid fun w' o => HB.out.did.at_.blk.kept o fun e => HB.out.did.at_.sep _ e (.inl rfl)
  have HM : Hid (∀ w', Only (Lru.Own b.B b.M s.l) w1 w' → CellsR w' X5 m.row) := Lib.hid fun w' o => HB.out.c5.kept o fun e => HB.out.no (.inl e)
  refine r_begin (S := Lru.Own b.B b.M s.l) (by kernel_rfl) ?_
  have HS := Lib.hid (Only.refl (Lru.Own b.B b.M s.l) w1)
  refine r_take 0 (.pointer (some ⟨b.C, 0, none⟩)) rfl (by kernel_rfl) (fun _ _ _ h => h) HS.out (YR.pure (by rfl) fun w hw => y_move w rfl rfl) ?_
  simp only [Act.put, List.setIfInBounds_toArray, List.set_cons_zero, List.set_cons_succ]
  refine r_take 1 (.pointer (some ⟨b.C, 0, none⟩)) rfl (by kernel_rfl) (fun _ _ _ h => h) HS.out (YR.pure (by rfl) fun w hw => y_nil w rfl rfl) ?_
  simp only [Act.put, List.setIfInBounds_toArray, List.set_cons_zero, List.set_cons_succ]
  refine r_take 2 (.pointer (some ⟨b.C, 15, none⟩)) rfl (by kernel_rfl) (fun _ _ _ h => h) HS.out (YR.pure (by rfl) fun w hw => y_f64_3 w rfl rfl) ?_
  simp only [Act.put, List.setIfInBounds_toArray, List.set_cons_zero, List.set_cons_succ]
  refine r_take 3 (.pointer (some ⟨b.B, 0, none⟩)) rfl (by kernel_rfl) (fun _ _ _ h => h) HS.out (YR.pure (by rfl) fun w hw => y_load56 rfl rfl ((HC.out w hw).is 15 _ rfl)) ?_
  simp only [Act.put, List.setIfInBounds_toArray, List.set_cons_zero, List.set_cons_succ]
  refine r_take 4 (.pointer (some ⟨X5, 7, none⟩)) rfl (by kernel_rfl) (fun _ _ _ h => h) HS.out (YR.pure (by rfl) fun w hw => y_f44_7 w rfl rfl) ?_
  simp only [Act.put, List.setIfInBounds_toArray, List.set_cons_zero, List.set_cons_succ]
  refine r_take 5 (.pointer (some ⟨X5, 8, none⟩)) rfl (by kernel_rfl) (fun _ _ _ h => h) HS.out (YR.pure (by rfl) fun w hw => y_f34_1 w rfl rfl) ?_
  simp only [Act.put, List.setIfInBounds_toArray, List.set_cons_zero, List.set_cons_succ]
  refine r_take 6 (.string m.key) rfl (by kernel_rfl) (fun _ _ _ h => h) HS.out (YR.pure (by rfl) fun w hw => y_load9 rfl rfl ((HM.out w hw).is 8 _ rfl)) ?_
  simp only [Act.put, List.setIfInBounds_toArray, List.set_cons_zero, List.set_cons_succ]
  refine r_one 7 rfl (by kernel_rfl) (by rfl) fun wi oi => ?_
  refine wp_enter (y_enter [.pointer (some ⟨b.B, 0, none⟩), .string m.key] rfl (by rfl) (call47_ _) wi) ((drop_c (HB.out.did.at_.new oi) m.key (by have := HKS.out; omega)).mono ?_)
  rintro e wj ⟨rfl, hd, oj⟩
  refine ⟨_, rfl, (HS.out.quiet oi).trans oj, ?_⟩
  simp only [Act.put, List.setIfInBounds_toArray, List.set_cons_zero, List.set_cons_succ]
  have HT := Lib.hid ((HS.out.quiet oi).trans oj)
  have HB2 := Lib.hid ((HB.out.on oi).to (hd))
  clear HS oi oj hd
  have HS := HT
  clear HT
  refine r_done (by kernel_rfl) fun wz oz => ?_
  have HB3 := Lib.hid (HB2.out.on oz)
  clear HB HB2 HS oz HC HM
  generalize wz = w2 at HB3 ⊢
  go_upto_region 2 with fail
  have HC : Hid (∀ w', Only (fun k => k = b.Mc) w2 w' → CellsR w' b.C (cacheR b s.clock)) := Lib.hid fun w' o => HB3.out.did.at_.blk.kept o (by have := HB3.out.did.at_.apart; omega)
  have HM : Hid (∀ w', Only (fun k => k = b.Mc) w2 w' → CellsR w' X5 m.row) := Lib.hid fun w' o => HB3.out.c5.kept o fun e => HB3.out.no (.inr (.inr (.inr (.inl e))))
  obtain ⟨vm, hvm⟩ : ∃ vm, ∀ wi, Only None' w2 wi → Calls Try.prog 46 #[.pointer (some ⟨b.Bc, 0, none⟩), .string m.key] wi fun r w' => r = .returned vm ∧ Did b { s with l := Lru.dropKey s.l m.key } { s with l := Lru.dropKey s.l m.key, c := s.c.mark m.key } wi w' ∧ Only (fun k => k = b.Mc) wi w' :=
    ⟨_, fun wi o => (mark_any (HB3.out.did.at_.new o).calls m.key).mono fun r w' h' => ⟨h'.1, (HB3.out.did.at_.new o).calls_to h'.2.1 (h'.2.2.mono fun _ _ e => .inr e), h'.2.2⟩⟩
  have HVM := Lib.hid hvm
  clear hvm
  refine r_begin (S := fun k => k = b.Mc) (by kernel_rfl) ?_
  have HS := Lib.hid (Only.refl (fun k => k = b.Mc) w2)
  refine r_take 0 (.pointer (some ⟨b.C, 0, none⟩)) rfl (by kernel_rfl) (fun _ _ _ h => h) HS.out (YR.pure (by rfl) fun w hw => y_move w rfl rfl) ?_
  simp only [Act.put, List.setIfInBounds_toArray, List.set_cons_zero, List.set_cons_succ]
  refine r_take 1 (.pointer (some ⟨b.C, 0, none⟩)) rfl (by kernel_rfl) (fun _ _ _ h => h) HS.out (YR.pure (by rfl) fun w hw => y_nil w rfl rfl) ?_
  simp only [Act.put, List.setIfInBounds_toArray, List.set_cons_zero, List.set_cons_succ]
  refine r_take 2 (.pointer (some ⟨b.C, 17, none⟩)) rfl (by kernel_rfl) (fun _ _ _ h => h) HS.out (YR.pure (by rfl) fun w hw => y_f64_5 w rfl rfl) ?_
  simp only [Act.put, List.setIfInBounds_toArray, List.set_cons_zero, List.set_cons_succ]
  refine r_take 3 (.pointer (some ⟨b.Bc, 0, none⟩)) rfl (by kernel_rfl) (fun _ _ _ h => h) HS.out (YR.pure (by rfl) fun w hw => y_load53 rfl rfl ((HC.out w hw).is 17 _ rfl)) ?_
  simp only [Act.put, List.setIfInBounds_toArray, List.set_cons_zero, List.set_cons_succ]
  refine r_take 4 (.pointer (some ⟨X5, 7, none⟩)) rfl (by kernel_rfl) (fun _ _ _ h => h) HS.out (YR.pure (by rfl) fun w hw => y_f44_7 w rfl rfl) ?_
  simp only [Act.put, List.setIfInBounds_toArray, List.set_cons_zero, List.set_cons_succ]
  refine r_take 5 (.pointer (some ⟨X5, 8, none⟩)) rfl (by kernel_rfl) (fun _ _ _ h => h) HS.out (YR.pure (by rfl) fun w hw => y_f34_1 w rfl rfl) ?_
  simp only [Act.put, List.setIfInBounds_toArray, List.set_cons_zero, List.set_cons_succ]
  refine r_take 6 (.string m.key) rfl (by kernel_rfl) (fun _ _ _ h => h) HS.out (YR.pure (by rfl) fun w hw => y_load9 rfl rfl ((HM.out w hw).is 8 _ rfl)) ?_
  simp only [Act.put, List.setIfInBounds_toArray, List.set_cons_zero, List.set_cons_succ]
  refine r_one 7 rfl (by kernel_rfl) (by rfl) fun wi oi => ?_
  refine wp_enter (y_enter [.pointer (some ⟨b.Bc, 0, none⟩), .string m.key] rfl (by rfl) (call46_ _) wi) ((HVM.out wi oi).mono ?_)
  rintro e wj ⟨rfl, hd, oj⟩
  refine ⟨_, rfl, (HS.out.quiet oi).trans oj, ?_⟩
  simp only [Act.put, List.setIfInBounds_toArray, List.set_cons_zero, List.set_cons_succ]
  have HT := Lib.hid ((HS.out.quiet oi).trans oj)
  have HB4 := Lib.hid ((HB3.out.on oi).to (hd))
  clear HS oi oj hd
  have HS := HT
  clear HT
  refine r_done (by kernel_rfl) fun wz oz => ?_
  have HB5 := Lib.hid (HB4.out.on oz)
  clear HB3 HB4 HS oz HC HM HVM
  generalize wz = w3 at HB5 ⊢
  have k1 := HB5.out.c5.is 1 _ rfl
  have k8 := HB5.out.c5.is 8 _ rfl
  have k16 := HB5.out.c5.is 16 _ rfl
  go_wp2_with fail
  refine (mail_any HB5.out.did.at_.cells.c13 HB5.out.did.at_.cells.lt from_ { kind := 17, shard := m.shard, key := m.key, grant := m.grant }).mono ?_
  rintro e w5 ⟨v, R, rfl, hm, hR, o5⟩
  have HE := Lib.hid (And.intro hm (And.intro hR o5))
  clear hm hR o5 k1 k8 k16
  go_wp2_with fail
  go_ret
  exact ⟨v, rfl, ⟨R, HE.out.1, Nat.le_trans HB5.out.did.kept.only.size HE.out.2.1, HB5.out.did.at_.not_own HE.out.2.1⟩, HB5.out.did.new HE.out.2.2⟩
end Go.Proofs.Ytfmpidacklhmaaa
/- told (26): an answer that nobody waits for; the first regions of the others. (Printed by tp.py.) -/
namespace Go.Proofs.Ytfmpidacklhmaaa
open Go.RowKit Go.Maps
set_option linter.unusedVariables false
set_option linter.unusedSimpArgs false
set_option maxRecDepth 20000

/-- a block of its own, with its cells -/
structure Loc (wz : World) (b : Bk) (s1 : Cs) (X : Nat) (row : List Value) : Prop where
  c : CellsR wz X row
  no : ¬ b.own s1.l X
theorem Loc.to {wj wk : World} {b : Bk} {s1 s2 : Cs} {X : Nat} {row : List Value} (h : Loc wj b s1 X row) (d : Did b s1 s2 wj wk) : Loc wk b s2 X row :=
  ⟨h.c.kept d.kept.only h.no, (d.kept.stay h.c.lt h.no).2.1⟩
theorem Loc.on {wj wk : World} {b : Bk} {s1 : Cs} {X : Nat} {row : List Value} (h : Loc wj b s1 X row) (o : Only None' wj wk) : Loc wk b s1 X row :=
  ⟨h.c.kept o fun e => e, h.no⟩
def Cs.tolds (s : Cs) (n : Int) : Cs := { s with c := s.c.told n }
theorem tell_c {w : World} {b : Bk} {s : Cs} (h : CacheAt w b s) (n : Int) (hn : (Lit.int .i64 n).wf = true) : Calls Try.prog 44 #[.pointer (some ⟨b.Bc, 0, none⟩), .int .i64 n] w fun e w' => e = .returned (.tuple #[((s.c.find n).getD Wt.zero).v, .bool (s.c.find n).isSome]) ∧ Did b s (s.tolds n) w w' ∧ Only (fun k => k = b.Bc ∨ k = b.Mc) w w' :=
  (tell_any h.calls n hn).mono fun r w' h' => ⟨h'.1, h.calls_to h'.2.1 h'.2.2, h'.2.2⟩
theorem Cs.tolds_none {s : Cs} {n : Int} (h : s.c.find n = none) : s.tolds n = s := by
  unfold Cs.tolds
  rw [Cl.told_none (by rw [h]; rfl)]
set_option maxHeartbeats 1000000 in
theorem htold_none {w : World} {b : Bk} (s : Cs) (h : CacheAt w b s) (m : Mg) (from_ : Int) (hrq : (Lit.int .i64 m.req).wf = true) (hf : s.c.find m.req = none) :
    Calls Try.prog 26 #[.pointer (some ⟨b.C, 0, none⟩), .int .i64 from_, m.v] w fun e w' => ∃ v, e = .returned v ∧ Told w w' b s v none ∧ Did b s s w w' := by
  have H := Lib.hid h
  have HTELL : Hid (∀ wi, CacheAt wi b s → Calls Try.prog 44 #[.pointer (some ⟨b.Bc, 0, none⟩), .int .i64 m.req] wi fun e w' => e = .returned (.tuple #[Wt.zero.v, .bool false]) ∧ Did b s (s.tolds m.req) wi w' ∧ Only (fun k => k = b.Bc ∨ k = b.Mc) wi w') := Lib.hid fun wi hi => by
    have := tell_c hi m.req hrq
    rw [hf] at this
    exact this
  have HN := Lib.hid (Cs.tolds_none hf)
  unfold Mg.v
  clear h hrq hf
  go_enter Try.func26, Try.ntmps26
  go_upto_region 1 with fail
  generalize hX : w.heap.size = X5
  generalize hw1 : w.alloc _ = w1
  have HB : Hid (Bx w w1 b s s m X5) := Lib.hid (by
    have o1 : Only None' w w1 := by rw [← hw1]; exact (Only.refl None' w).alloc _
    rw [← hX]
    exact bx_new H.out m o1 (by rw [← hw1]; exact cells_new w m.row 44))
  clear hX hw1
  have HC : Hid (∀ w', Only (fun k => k = b.Bc ∨ k = b.Mc) w1 w' → CellsR w' b.C (cacheR b s.clock)) := Lib.hid fun w' o => HB.out.did.at_.blk.kept o (by have := HB.out.did.at_.apart; omega)
  have HM : Hid (∀ w', Only (fun k => k = b.Bc ∨ k = b.Mc) w1 w' → CellsR w' X5 m.row) := Lib.hid fun w' o => HB.out.c5.kept o (by have h1 := HB.out.no; rintro (e | e); exact h1 (.inr (.inr (.inl e))); exact h1 (.inr (.inr (.inr (.inl e)))))
  go_cut [7, 8] from 11 to 21 (fun u7 u8 wx => ∃ X7, u7 = .pointer (some ⟨X7, 0, none⟩) ∧ u8 = .bool false ∧ Hid (Bx w wx b s (s.tolds m.req) m X5 ∧ Loc wx b (s.tolds m.req) X7 (Wt.zero.row)))
  case first =>
    refine r_begin (S := fun k => k = b.Bc ∨ k = b.Mc) (by kernel_rfl) ?_
    have HS := Lib.hid (Only.refl (fun k => k = b.Bc ∨ k = b.Mc) w1)
    refine r_take 0 (.pointer (some ⟨b.C, 0, none⟩)) rfl (by kernel_rfl) (fun _ _ _ h => h) HS.out (YR.pure (by rfl) fun w hw => y_move w rfl rfl) ?_
    simp only [Act.put, List.setIfInBounds_toArray, List.set_cons_zero, List.set_cons_succ]
    refine r_take 1 (.pointer (some ⟨b.C, 0, none⟩)) rfl (by kernel_rfl) (fun _ _ _ h => h) HS.out (YR.pure (by rfl) fun w hw => y_nil w rfl rfl) ?_
    simp only [Act.put, List.setIfInBounds_toArray, List.set_cons_zero, List.set_cons_succ]
    refine r_take 2 (.pointer (some ⟨b.C, 17, none⟩)) rfl (by kernel_rfl) (fun _ _ _ h => h) HS.out (YR.pure (by rfl) fun w hw => y_f64_5 w rfl rfl) ?_
    simp only [Act.put, List.setIfInBounds_toArray, List.set_cons_zero, List.set_cons_succ]
    refine r_take 3 (.pointer (some ⟨b.Bc, 0, none⟩)) rfl (by kernel_rfl) (fun _ _ _ h => h) HS.out (YR.pure (by rfl) fun w hw => y_load53 rfl rfl ((HC.out w hw).is 17 _ rfl)) ?_
    simp only [Act.put, List.setIfInBounds_toArray, List.set_cons_zero, List.set_cons_succ]
    refine r_take 4 (.pointer (some ⟨X5, 4, none⟩)) rfl (by kernel_rfl) (fun _ _ _ h => h) HS.out (YR.pure (by rfl) fun w hw => y_f44_4 w rfl rfl) ?_
    simp only [Act.put, List.setIfInBounds_toArray, List.set_cons_zero, List.set_cons_succ]
    refine r_take 5 (.int .i64 m.req) rfl (by kernel_rfl) (fun _ _ _ h => h) HS.out (YR.pure (by rfl) fun w hw => y_load3 rfl rfl ((HM.out w hw).is 4 _ rfl)) ?_
    simp only [Act.put, List.setIfInBounds_toArray, List.set_cons_zero, List.set_cons_succ]
    refine r_two 6 10 rfl rfl (by kernel_rfl) (by rfl) (by rfl) (fun wi oi => ?_) (fun wi oi => ?_)
    · refine wp_enter (y_enter [.pointer (some ⟨b.Bc, 0, none⟩), .int .i64 m.req] rfl (by rfl) (call44_ _) wi) ((HTELL.out wi (HB.out.on oi).did.at_).mono ?_)
      rintro e wj ⟨rfl, hd, oj⟩
      refine ⟨_, rfl, (HS.out.quiet oi).trans oj, ?_⟩
      simp only [Act.put, List.setIfInBounds_toArray, List.set_cons_zero, List.set_cons_succ]
      have HT := Lib.hid ((HS.out.quiet oi).trans oj)
      have HB3 := Lib.hid ((HB.out.on oi).to (hd))
      clear HS oi oj hd
      have HS := HT
      clear HT
      refine r_take 7 (.tuple #[Wt.zero.v, .bool false]) rfl (by kernel_rfl) (fun _ _ _ h => h) HS.out (YR.pure (by rfl) fun w hw => y_move w rfl rfl) ?_
      simp only [Act.put, List.setIfInBounds_toArray, List.set_cons_zero, List.set_cons_succ]
      refine r_take 8 (Wt.zero.v) rfl (by kernel_rfl) (fun _ _ _ h => h) HS.out (YR.pure (by rfl) fun w hw => y_ext0 w rfl rfl) ?_
      simp only [Act.put, List.setIfInBounds_toArray, List.set_cons_zero, List.set_cons_succ]
      refine r_take 9 (.bool false) rfl (by kernel_rfl) (fun _ _ _ h => h) HS.out (YR.pure (by rfl) fun w hw => y_ext1 w rfl rfl) ?_
      simp only [Act.put, List.setIfInBounds_toArray, List.set_cons_zero, List.set_cons_succ]
      refine r_one 10 rfl (by kernel_rfl) (by rfl) fun wi oi => ?_
      refine wp_alloc (n := 7) rfl alloc74 rfl fun X7 wj hX hm oj => ⟨HS.out.quiet (oi.trans oj), ?_⟩
      simp only [Act.put, List.setIfInBounds_toArray, List.set_cons_zero, List.set_cons_succ]
      have HXX7 : Hid (_ ≤ X7) := Lib.hid (Nat.le_trans (HS.out.quiet oi).size (Nat.le_of_eq hX.symm))
      have HLX7 := Lib.hid (Lx.new HB3.out oi hX hm)
      have HB4 := Lib.hid (HB3.out.on (oi.trans oj))
      have HT := Lib.hid (HS.out.quiet (oi.trans oj))
      clear hm hX oi oj HS
      have HS := HT
      clear HT
      refine r_one 11 rfl (by kernel_rfl) (by rfl) fun wi oi => ?_
      refine wp_store_new (row := Wt.zero.row) rfl rfl rfl (HLX7.out.made.only oi fun e => e) size74 (by simp [Wt.row, Value.oneCell']) fun wj hc oj => ⟨(HS.out.quiet oi).trans2 oj (fun k hk e => by have := HXX7.out; omega), ?_⟩
      simp only [Act.put, List.setIfInBounds_toArray, List.set_cons_zero, List.set_cons_succ]
      have HCX7 := Lib.hid hc
      have HB5 := Lib.hid ((HB4.out.on oi).stored oj HLX7.out)
      have HT := Lib.hid ((HS.out.quiet oi).trans2 oj (fun k hk e => by have := HXX7.out; omega))
      clear hc oi oj HS
      have HS := HT
      clear HT
      refine r_take 12 (.bool false) rfl (by kernel_rfl) (fun _ _ _ h => h) HS.out (YR.pure (by rfl) fun w hw => y_assign w rfl rfl) ?_
      simp only [Act.put, List.setIfInBounds_toArray, List.set_cons_zero, List.set_cons_succ]
      refine r_done (by kernel_rfl) fun wz oz => ?_
      have HZ : Hid (Bx w wz b s (s.tolds m.req) m X5 ∧ Loc wz b (s.tolds m.req) X7 (Wt.zero.row)) := Lib.hid (And.intro (HB5.out.on oz) ⟨HCX7.out.kept oz fun e => e, HLX7.out.no⟩)
      clear oz
      go_wp2_with fail
      go_meet
      exact ⟨X7, rfl, rfl, HZ⟩
    · refine wp_alloc (n := 7) rfl alloc74 rfl fun X7 wj hX hm oj => ⟨HS.out.quiet (oi.trans oj), ?_⟩
      simp only [Act.put, List.setIfInBounds_toArray, List.set_cons_zero, List.set_cons_succ]
      have HXX7 : Hid (_ ≤ X7) := Lib.hid (Nat.le_trans (HS.out.quiet oi).size (Nat.le_of_eq hX.symm))
      have HLX7 := Lib.hid (Lx.new HB.out oi hX hm)
      have HB3 := Lib.hid (HB.out.on (oi.trans oj))
      have HT := Lib.hid (HS.out.quiet (oi.trans oj))
      clear hm hX oi oj HS
      have HS := HT
      clear HT
      refine r_one 6 rfl (by kernel_rfl) (by rfl) fun wi oi => ?_
      refine wp_enter (y_enter [.pointer (some ⟨b.Bc, 0, none⟩), .int .i64 m.req] rfl (by rfl) (call44_ _) wi) ((HTELL.out wi (HB3.out.on oi).did.at_).mono ?_)
      rintro e wj ⟨rfl, hd, oj⟩
      refine ⟨_, rfl, (HS.out.quiet oi).trans oj, ?_⟩
      simp only [Act.put, List.setIfInBounds_toArray, List.set_cons_zero, List.set_cons_succ]
      have HT := Lib.hid ((HS.out.quiet oi).trans oj)
      have HB4 := Lib.hid ((HB3.out.on oi).to (hd))
      have HLT := Lib.hid ((HLX7.out.on oi).to hd)
      clear HLX7
      have HLX7 := HLT
      clear HLT
      clear HS oi oj hd
      have HS := HT
      clear HT
      refine r_take 7 (.tuple #[Wt.zero.v, .bool false]) rfl (by kernel_rfl) (fun _ _ _ h => h) HS.out (YR.pure (by rfl) fun w hw => y_move w rfl rfl) ?_
      simp only [Act.put, List.setIfInBounds_toArray, List.set_cons_zero, List.set_cons_succ]
      refine r_take 8 (Wt.zero.v) rfl (by kernel_rfl) (fun _ _ _ h => h) HS.out (YR.pure (by rfl) fun w hw => y_ext0 w rfl rfl) ?_
      simp only [Act.put, List.setIfInBounds_toArray, List.set_cons_zero, List.set_cons_succ]
      refine r_take 9 (.bool false) rfl (by kernel_rfl) (fun _ _ _ h => h) HS.out (YR.pure (by rfl) fun w hw => y_ext1 w rfl rfl) ?_
      simp only [Act.put, List.setIfInBounds_toArray, List.set_cons_zero, List.set_cons_succ]
      refine r_one 11 rfl (by kernel_rfl) (by rfl) fun wi oi => ?_
      refine wp_store_new (row := Wt.zero.row) rfl rfl rfl (HLX7.out.made.only oi fun e => e) size74 (by simp [Wt.row, Value.oneCell']) fun wj hc oj => ⟨(HS.out.quiet oi).trans2 oj (fun k hk e => by have := HXX7.out; omega), ?_⟩
      simp only [Act.put, List.setIfInBounds_toArray, List.set_cons_zero, List.set_cons_succ]
      have HCX7 := Lib.hid hc
      have HB5 := Lib.hid ((HB4.out.on oi).stored oj HLX7.out)
      have HT := Lib.hid ((HS.out.quiet oi).trans2 oj (fun k hk e => by have := HXX7.out; omega))
      clear hc oi oj HS
      have HS := HT
      clear HT
      refine r_take 12 (.bool false) rfl (by kernel_rfl) (fun _ _ _ h => h) HS.out (YR.pure (by rfl) fun w hw => y_assign w rfl rfl) ?_
      simp only [Act.put, List.setIfInBounds_toArray, List.set_cons_zero, List.set_cons_succ]
      refine r_done (by kernel_rfl) fun wz oz => ?_
      have HZ : Hid (Bx w wz b s (s.tolds m.req) m X5 ∧ Loc wz b (s.tolds m.req) X7 (Wt.zero.row)) := Lib.hid (And.intro (HB5.out.on oz) ⟨HCX7.out.kept oz fun e => e, HLX7.out.no⟩)
      clear oz
      go_wp2_with fail
      go_meet
      exact ⟨X7, rfl, rfl, HZ⟩
  case rest =>
    obtain ⟨X7, rfl, rfl, HZ⟩ := hcut
    clear HC HM HB HTELL
    go_wp2_with fail
    go_ret
    have hd := HZ.out.1.did
    rw [HN.out] at hd
    exact ⟨_, rfl, rfl, hd⟩
end Go.Proofs.Ytfmpidacklhmaaa
