/- told (26): an answer that is kept. (Printed by tp.py.) -/
import Derived.Test.YtfmpidacklhmaaaAM
namespace Go.Proofs.Ytfmpidacklhmaaa
open Go.RowKit Go.Maps
set_option linter.unusedVariables false
set_option linter.unusedSimpArgs false
set_option maxRecDepth 20000

def Cs.kept (s : Cs) (x : Wt) (m : Mg) (xn : Nat) : Cs := { s.told x m.req with l := [(xn, ⟨x.key, m.rv, 5, m.grant⟩)], c := (s.told x m.req).c.mark x.key }
set_option maxHeartbeats 1000000 in
theorem htold_A {w : World} {b : Bk} (s : Cs) (h : CacheAt w b s) (m : Mg) (rv : ByteArray) (req : Int) (hm : m = { kind := 13, req := req, code := 0, grant := 7, rk := 1, rf := true, rv := rv }) (from_ : Int) (hrq : (Lit.int .i64 m.req).wf = true) (x : Wt) (hf : s.c.find m.req = some x) (hx : (Lit.int .i64 x.req).wf = true) (hks : x.key.size ≤ 500) (hrv : rv.size ≤ 500) (hop : (s.f x.req).op.kind = 1) (hmk : x.marked = false) (hl : s.l = []) (hck : s.clock = 0) (hfi : x.first = 0) :
    Calls Try.prog 26 #[.pointer (some ⟨b.C, 0, none⟩), .int .i64 from_, m.v] w fun e w' => ∃ xn v, e = .returned v ∧ Told w w' b (s.kept x m xn) v (some (x.client, tellM x m)) ∧ Did b s (s.kept x m xn) w w' := by
  have HSZ := Lib.hid (And.intro hks hrv)
  have HL := Lib.hid hl
  have HCK := Lib.hid (And.intro hck hfi)
  have hks : x.key.size ≤ 1000000 := by omega
  clear hrv hl hck hfi
  have H := Lib.hid h
  have HTELL : Hid (∀ wi, CacheAt wi b s → Calls Try.prog 44 #[.pointer (some ⟨b.Bc, 0, none⟩), .int .i64 m.req] wi fun e w' => e = .returned (.tuple #[x.v, .bool true]) ∧ Did b s (s.tolds m.req) wi w' ∧ Only (fun k => k = b.Bc ∨ k = b.Mc) wi w') := Lib.hid fun wi hi => by
    have := tell_c hi m.req hrq
    rw [hf] at this
    exact this
  have HX := Lib.hid hx
  have HKS := Lib.hid hks
  have HM5 := Lib.hid hm
  have HOP := Lib.hid hop
  have HMK := Lib.hid hmk
  unfold Mg.v
  clear h hrq hf hx hks hm hop hmk
  go_enter Try.func26, Try.ntmps26
  go_upto_region 1 with fail
  generalize hX : w.heap.size = X5
  generalize hw1 : w.alloc _ = w1
  have HB : Hid (Bx w w1 b s s m X5) := Lib.hid (by
    have o1 : Only None' w w1 := by rw [← hw1]; exact (Only.refl None' w).alloc _
    rw [← hX]
    exact bx_new H.out m o1 (by rw [← hw1]; exact cells_new w m.row 44))
  clear hX hw1
  have HC : Hid (∀ w', Only (fun k => k = b.Bc ∨ k = b.Mc) w1 w' → CellsR w' b.C (cacheR b s.clock)) := Lib.hid fun w' o => HB.out.did.at_.blk.kept o (by have := HB.out.did.at_.apart; omega)
  have HM : Hid (∀ w', Only (fun k => k = b.Bc ∨ k = b.Mc) w1 w' → CellsR w' X5 m.row) := Lib.hid fun w' o => HB.out.c5.kept o (by have h1 := HB.out.no; rintro (e | e); exact h1 (.inr (.inr (.inl e))); exact h1 (.inr (.inr (.inr (.inl e)))))
  go_cut [7, 8] from 11 to 21 (fun u7 u8 wx => ∃ X7, u7 = .pointer (some ⟨X7, 0, none⟩) ∧ u8 = .bool true ∧ Hid (Bx w wx b s (s.tolds m.req) m X5 ∧ Loc wx b (s.tolds m.req) X7 (x.row)))
  case first =>
    refine r_begin (S := fun k => k = b.Bc ∨ k = b.Mc) (by kernel_rfl) ?_
    have HS := Lib.hid (Only.refl (fun k => k = b.Bc ∨ k = b.Mc) w1)
    refine r_take 0 (.pointer (some ⟨b.C, 0, none⟩)) rfl (by kernel_rfl) (fun _ _ _ h => h) HS.out (YR.pure (by rfl) fun w hw => y_move w rfl rfl) ?_
    simp only [Act.put, List.setIfInBounds_toArray, List.set_cons_zero, List.set_cons_succ]
    refine r_take 1 (.pointer (some ⟨b.C, 0, none⟩)) rfl (by kernel_rfl) (fun _ _ _ h => h) HS.out (YR.pure (by rfl) fun w hw => y_nil w rfl rfl) ?_
    simp only [Act.put, List.setIfInBounds_toArray, List.set_cons_zero, List.set_cons_succ]
    refine r_take 2 (.pointer (some ⟨b.C, 17, none⟩)) rfl (by kernel_rfl) (fun _ _ _ h => h) HS.out (YR.pure (by rfl) fun w hw => y_f64_5 w rfl rfl) ?_
    simp only [Act.put, List.setIfInBounds_toArray, List.set_cons_zero, List.set_cons_succ]
    refine r_take 3 (.pointer (some ⟨b.Bc, 0, none⟩)) rfl (by kernel_rfl) (fun _ _ _ h => h) HS.out (YR.pure (by rfl) fun w hw => y_load53 rfl rfl ((HC.out w hw).is 17 _ rfl)) ?_
    simp only [Act.put, List.setIfInBounds_toArray, List.set_cons_zero, List.set_cons_succ]
    refine r_take 4 (.pointer (some ⟨X5, 4, none⟩)) rfl (by kernel_rfl) (fun _ _ _ h => h) HS.out (YR.pure (by rfl) fun w hw => y_f44_4 w rfl rfl) ?_
    simp only [Act.put, List.setIfInBounds_toArray, List.set_cons_zero, List.set_cons_succ]
    refine r_take 5 (.int .i64 m.req) rfl (by kernel_rfl) (fun _ _ _ h => h) HS.out (YR.pure (by rfl) fun w hw => y_load3 rfl rfl ((HM.out w hw).is 4 _ rfl)) ?_
    simp only [Act.put, List.setIfInBounds_toArray, List.set_cons_zero, List.set_cons_succ]
    refine r_two 6 10 rfl rfl (by kernel_rfl) (by rfl) (by rfl) (fun wi oi => ?_) (fun wi oi => ?_)
    · refine wp_enter (y_enter [.pointer (some ⟨b.Bc, 0, none⟩), .int .i64 m.req] rfl (by rfl) (call44_ _) wi) ((HTELL.out wi (HB.out.on oi).did.at_).mono ?_)
      rintro e wj ⟨rfl, hd, oj⟩
      refine ⟨_, rfl, (HS.out.quiet oi).trans oj, ?_⟩
      simp only [Act.put, List.setIfInBounds_toArray, List.set_cons_zero, List.set_cons_succ]
      have HT := Lib.hid ((HS.out.quiet oi).trans oj)
      have HB3 := Lib.hid ((HB.out.on oi).to (hd))
      clear HS oi oj hd
      have HS := HT
      clear HT
      refine r_take 7 (.tuple #[x.v, .bool true]) rfl (by kernel_rfl) (fun _ _ _ h => h) HS.out (YR.pure (by rfl) fun w hw => y_move w rfl rfl) ?_
      simp only [Act.put, List.setIfInBounds_toArray, List.set_cons_zero, List.set_cons_succ]
      refine r_take 8 (x.v) rfl (by kernel_rfl) (fun _ _ _ h => h) HS.out (YR.pure (by rfl) fun w hw => y_ext0 w rfl rfl) ?_
      simp only [Act.put, List.setIfInBounds_toArray, List.set_cons_zero, List.set_cons_succ]
      refine r_take 9 (.bool true) rfl (by kernel_rfl) (fun _ _ _ h => h) HS.out (YR.pure (by rfl) fun w hw => y_ext1 w rfl rfl) ?_
      simp only [Act.put, List.setIfInBounds_toArray, List.set_cons_zero, List.set_cons_succ]
      refine r_one 10 rfl (by kernel_rfl) (by rfl) fun wi oi => ?_
      refine wp_alloc (n := 7) rfl alloc74 rfl fun X7 wj hX hm oj => ⟨HS.out.quiet (oi.trans oj), ?_⟩
      simp only [Act.put, List.setIfInBounds_toArray, List.set_cons_zero, List.set_cons_succ]
      have HXX7 : Hid (_ ≤ X7) := Lib.hid (Nat.le_trans (HS.out.quiet oi).size (Nat.le_of_eq hX.symm))
      have HLX7 := Lib.hid (Lx.new HB3.out oi hX hm)
      have HB4 := Lib.hid (HB3.out.on (oi.trans oj))
      have HT := Lib.hid (HS.out.quiet (oi.trans oj))
      clear hm hX oi oj HS
      have HS := HT
      clear HT
      refine r_one 11 rfl (by kernel_rfl) (by rfl) fun wi oi => ?_
      refine wp_store_new (row := x.row) rfl rfl rfl (HLX7.out.made.only oi fun e => e) size74 (by simp [Wt.row, Value.oneCell']) fun wj hc oj => ⟨(HS.out.quiet oi).trans2 oj (fun k hk e => by have := HXX7.out; omega), ?_⟩
      simp only [Act.put, List.setIfInBounds_toArray, List.set_cons_zero, List.set_cons_succ]
      have HCX7 := Lib.hid hc
      have HB5 := Lib.hid ((HB4.out.on oi).stored oj HLX7.out)
      have HT := Lib.hid ((HS.out.quiet oi).trans2 oj (fun k hk e => by have := HXX7.out; omega))
      clear hc oi oj HS
      have HS := HT
      clear HT
      refine r_take 12 (.bool true) rfl (by kernel_rfl) (fun _ _ _ h => h) HS.out (YR.pure (by rfl) fun w hw => y_assign w rfl rfl) ?_
      simp only [Act.put, List.setIfInBounds_toArray, List.set_cons_zero, List.set_cons_succ]
      refine r_done (by kernel_rfl) fun wz oz => ?_
      have HZ : Hid (Bx w wz b s (s.tolds m.req) m X5 ∧ Loc wz b (s.tolds m.req) X7 (x.row)) := Lib.hid (And.intro (HB5.out.on oz) ⟨HCX7.out.kept oz fun e => e, HLX7.out.no⟩)
      clear oz
      go_wp2_with fail
      go_meet
      exact ⟨X7, rfl, rfl, HZ⟩
    · refine wp_alloc (n := 7) rfl alloc74 rfl fun X7 wj hX hm oj => ⟨HS.out.quiet (oi.trans oj), ?_⟩
      simp only [Act.put, List.setIfInBounds_toArray, List.set_cons_zero, List.set_cons_succ]
      have HXX7 : Hid (_ ≤ X7) := Lib.hid (Nat.le_trans (HS.out.quiet oi).size (Nat.le_of_eq hX.symm))
      have HLX7 := Lib.hid (Lx.new HB.out oi hX hm)
      have HB3 := Lib.hid (HB.out.on (oi.trans oj))
      have HT := Lib.hid (HS.out.quiet (oi.trans oj))
      clear hm hX oi oj HS
      have HS := HT
      clear HT
      refine r_one 6 rfl (by kernel_rfl) (by rfl) fun wi oi => ?_
      refine wp_enter (y_enter [.pointer (some ⟨b.Bc, 0, none⟩), .int .i64 m.req] rfl (by rfl) (call44_ _) wi) ((HTELL.out wi (HB3.out.on oi).did.at_).mono ?_)
      rintro e wj ⟨rfl, hd, oj⟩
      refine ⟨_, rfl, (HS.out.quiet oi).trans oj, ?_⟩
      simp only [Act.put, List.setIfInBounds_toArray, List.set_cons_zero, List.set_cons_succ]
      have HT := Lib.hid ((HS.out.quiet oi).trans oj)
      have HB4 := Lib.hid ((HB3.out.on oi).to (hd))
      have HLT := Lib.hid ((HLX7.out.on oi).to hd)
      clear HLX7
      have HLX7 := HLT
      clear HLT
      clear HS oi oj hd
      have HS := HT
      clear HT
      refine r_take 7 (.tuple #[x.v, .bool true]) rfl (by kernel_rfl) (fun _ _ _ h => h) HS.out (YR.pure (by rfl) fun w hw => y_move w rfl rfl) ?_
      simp only [Act.put, List.setIfInBounds_toArray, List.set_cons_zero, List.set_cons_succ]
      refine r_take 8 (x.v) rfl (by kernel_rfl) (fun _ _ _ h => h) HS.out (YR.pure (by rfl) fun w hw => y_ext0 w rfl rfl) ?_
      simp only [Act.put, List.setIfInBounds_toArray, List.set_cons_zero, List.set_cons_succ]
      refine r_take 9 (.bool true) rfl (by kernel_rfl) (fun _ _ _ h => h) HS.out (YR.pure (by rfl) fun w hw => y_ext1 w rfl rfl) ?_
      simp only [Act.put, List.setIfInBounds_toArray, List.set_cons_zero, List.set_cons_succ]
      refine r_one 11 rfl (by kernel_rfl) (by rfl) fun wi oi => ?_
      refine wp_store_new (row := x.row) rfl rfl rfl (HLX7.out.made.only oi fun e => e) size74 (by simp [Wt.row, Value.oneCell']) fun wj hc oj => ⟨(HS.out.quiet oi).trans2 oj (fun k hk e => by have := HXX7.out; omega), ?_⟩
      simp only [Act.put, List.setIfInBounds_toArray, List.set_cons_zero, List.set_cons_succ]
      have HCX7 := Lib.hid hc
      have HB5 := Lib.hid ((HB4.out.on oi).stored oj HLX7.out)
      have HT := Lib.hid ((HS.out.quiet oi).trans2 oj (fun k hk e => by have := HXX7.out; omega))
      clear hc oi oj HS
      have HS := HT
      clear HT
      refine r_take 12 (.bool true) rfl (by kernel_rfl) (fun _ _ _ h => h) HS.out (YR.pure (by rfl) fun w hw => y_assign w rfl rfl) ?_
      simp only [Act.put, List.setIfInBounds_toArray, List.set_cons_zero, List.set_cons_succ]
      refine r_done (by kernel_rfl) fun wz oz => ?_
      have HZ : Hid (Bx w wz b s (s.tolds m.req) m X5 ∧ Loc wz b (s.tolds m.req) X7 (x.row)) := Lib.hid (And.intro (HB5.out.on oz) ⟨HCX7.out.kept oz fun e => e, HLX7.out.no⟩)
      clear oz
      go_wp2_with fail
      go_meet
      exact ⟨X7, rfl, rfl, HZ⟩
  case rest =>
    obtain ⟨X7, rfl, rfl, HZ⟩ := hcut
    clear HC HM HB HTELL
    go_upto_region 4 with fail
    have HA : Hid (∀ w', Only None' wc w' → CacheAt w' b (s.tolds m.req)) := Lib.hid fun w' o => HZ.out.1.did.at_.new o
    have H7 : Hid (∀ w', Only None' wc w' → CellsR w' X7 x.row) := Lib.hid fun w' o => HZ.out.2.c.kept o fun e => e
    refine r_begin (S := None') (by kernel_rfl) ?_
    have HS := Lib.hid (Only.refl (None') wc)
    refine r_take 0 (.pointer (some ⟨b.C, 0, none⟩)) rfl (by kernel_rfl) (fun _ _ _ h => h) HS.out (YR.pure (by rfl) fun w hw => y_move w rfl rfl) ?_
    simp only [Act.put, List.setIfInBounds_toArray, List.set_cons_zero, List.set_cons_succ]
    refine r_take 1 (.pointer (some ⟨b.C, 0, none⟩)) rfl (by kernel_rfl) (fun _ _ _ h => h) HS.out (YR.pure (by rfl) fun w hw => y_nil w rfl rfl) ?_
    simp only [Act.put, List.setIfInBounds_toArray, List.set_cons_zero, List.set_cons_succ]
    refine r_take 2 (.pointer (some ⟨b.C, 18, none⟩)) rfl (by kernel_rfl) (fun _ _ _ h => h) HS.out (YR.pure (by rfl) fun w hw => y_f64_6 w rfl rfl) ?_
    simp only [Act.put, List.setIfInBounds_toArray, List.set_cons_zero, List.set_cons_succ]
    refine r_take 3 (.map (some b.Ma)) rfl (by kernel_rfl) (fun _ _ _ h => h) HS.out (YR.pure (by rfl) fun w hw => y_load62 rfl rfl ((HA.out w hw).cells.c18)) ?_
    simp only [Act.put, List.setIfInBounds_toArray, List.set_cons_zero, List.set_cons_succ]
    refine r_take 4 (.pointer (some ⟨X7, 0, none⟩)) rfl (by kernel_rfl) (fun _ _ _ h => h) HS.out (YR.pure (by rfl) fun w hw => y_f74_0 w rfl rfl) ?_
    simp only [Act.put, List.setIfInBounds_toArray, List.set_cons_zero, List.set_cons_succ]
    refine r_take 5 (.int .i64 x.req) rfl (by kernel_rfl) (fun _ _ _ h => h) HS.out (YR.pure (by rfl) fun w hw => y_load3 rfl rfl ((H7.out w hw).is 0 _ rfl)) ?_
    simp only [Act.put, List.setIfInBounds_toArray, List.set_cons_zero, List.set_cons_succ]
    refine r_take 6 ((s.f x.req).v) rfl (by kernel_rfl) (fun _ _ _ h => h) HS.out (YR.pure (by rfl) fun w hw => y_look62 rfl rfl rfl (HA.out w hw).asked HX.out) ?_
    simp only [Act.put, List.setIfInBounds_toArray, List.set_cons_zero, List.set_cons_succ]
    refine r_take 7 ((s.f x.req).op.v) rfl (by kernel_rfl) (fun _ _ _ h => h) HS.out (YR.pure (by rfl) fun w hw => y_field101 w (k := s.f x.req) rfl rfl) ?_
    simp only [Act.put, List.setIfInBounds_toArray, List.set_cons_zero, List.set_cons_succ]
    refine r_one 8 rfl (by kernel_rfl) (by rfl) fun wi oi => ?_
    refine wp_alloc (n := 5) rfl alloc34 rfl fun X9 wj hX9 hm oj => ⟨HS.out.quiet (oi.trans oj), ?_⟩
    simp only [Act.put, List.setIfInBounds_toArray, List.set_cons_zero, List.set_cons_succ]
    have HMX9 := Lib.hid hm
    have HXX9 : Hid (_ ≤ X9) := Lib.hid (Nat.le_trans (HS.out.quiet oi).size (Nat.le_of_eq hX9.symm))
    have HT := Lib.hid (HS.out.quiet (oi.trans oj))
    clear hm hX9 oi oj HS
    have HS := HT
    clear HT
    refine r_one 9 rfl (by kernel_rfl) (by rfl) fun wi oi => ?_
    refine wp_store_new (row := (s.f x.req).op.row) rfl rfl rfl (HMX9.out.only oi fun e => e) size34 (Op5.row_one _) fun wj hc oj => ⟨(HS.out.quiet oi).trans2 oj (fun k hk e => by have := HXX9.out; omega), ?_⟩
    simp only [Act.put, List.setIfInBounds_toArray, List.set_cons_zero, List.set_cons_succ]
    have HCX9 := Lib.hid hc
    have HT := Lib.hid ((HS.out.quiet oi).trans2 oj (fun k hk e => by have := HXX9.out; omega))
    clear hc oi oj HS
    have HS := HT
    clear HT
    refine r_done (by kernel_rfl) fun wz oz => ?_
    have HZ2 : Hid (Bx w wz b s (s.tolds m.req) m X5 ∧ Loc wz b (s.tolds m.req) X7 x.row ∧ Loc wz b (s.tolds m.req) X9 (s.f x.req).op.row) := Lib.hid ⟨HZ.out.1.on (HS.out.trans oz), HZ.out.2.on (HS.out.trans oz), HCX9.out.kept oz fun e => e, HZ.out.1.did.at_.not_own HXX9.out⟩
    clear HZ HS oz HA H7 HMX9 HCX9 HXX9
    generalize wz = w2 at HZ2 ⊢
    have c18 := HZ2.out.1.did.at_.cells.c18
    have k0 := HZ2.out.2.1.c.is 0 _ rfl
    obtain ⟨D, hD, hat⟩ := HZ2.out.1.did.at_.asked.map
    have HD := Lib.hid (And.intro hD hat)
    clear hD hat
    go_upto_region 5 with fail
    go_still_tail 6, (by kernel_rfl)
    at_delete
    refine wpList_delete_own _ rfl _ _ 62 3 rfl 101 keyed3 under62 akR b.Ma _ D rfl (HD.out.1.drew) (.int .i64 x.req) (.int .i64 x.req) rfl (keyOf_int_mk Try.underlying3 HX.out) ?_
    intro w3 ho3 ht3
    have HZ3 : Hid (Bx w w3 b s (s.told x m.req) m X5 ∧ Loc w3 b (s.told x m.req) X7 x.row ∧ Loc w3 b (s.told x m.req) X9 (s.f x.req).op.row) := Lib.hid (by
      have o3 : Only (fun j => j = b.Ma) w2 w3 := (Only.drew (Only.refl _ _)).turned ht3 rfl
      have a3 := asked_del HD.out.2 ho3
      have hd : Did b (s.tolds m.req) (s.told x m.req) w2 w3 := HZ2.out.1.did.at_.asked_to a3 o3
      exact ⟨HZ2.out.1.to hd, HZ2.out.2.1.to hd, HZ2.out.2.2.to hd⟩)
    clear ho3 ht3 HD HZ2 c18 k0
    go_upto_region 6 with fail
    have HA : Hid (∀ w', Only None' w3 w' → CacheAt w' b (s.told x m.req)) := Lib.hid fun w' o => HZ3.out.1.did.at_.new o
    have HM : Hid (∀ w', Only None' w3 w' → CellsR w' X5 m.row) := Lib.hid fun w' o => HZ3.out.1.c5.kept o fun e => e
    refine r_begin (S := None') (by kernel_rfl) ?_
    have HS := Lib.hid (Only.refl (None') w3)
    refine r_take 0 (.pointer (some ⟨b.C, 0, none⟩)) rfl (by kernel_rfl) (fun _ _ _ h => h) HS.out (YR.pure (by rfl) fun w hw => y_move w rfl rfl) ?_
    simp only [Act.put, List.setIfInBounds_toArray, List.set_cons_zero, List.set_cons_succ]
    refine r_take 1 (.pointer (some ⟨b.C, 0, none⟩)) rfl (by kernel_rfl) (fun _ _ _ h => h) HS.out (YR.pure (by rfl) fun w hw => y_nil w rfl rfl) ?_
    simp only [Act.put, List.setIfInBounds_toArray, List.set_cons_zero, List.set_cons_succ]
    refine r_take 2 (.pointer (some ⟨b.C, 16, none⟩)) rfl (by kernel_rfl) (fun _ _ _ h => h) HS.out (YR.pure (by rfl) fun w hw => y_f64_4 w rfl rfl) ?_
    simp only [Act.put, List.setIfInBounds_toArray, List.set_cons_zero, List.set_cons_succ]
    refine r_take 3 (.pointer (some ⟨b.R, 0, none⟩)) rfl (by kernel_rfl) (fun _ _ _ h => h) HS.out (YR.pure (by rfl) fun w hw => y_load59 rfl rfl ((HA.out w hw).cells.c16)) ?_
    simp only [Act.put, List.setIfInBounds_toArray, List.set_cons_zero, List.set_cons_succ]
    refine r_take 4 (.pointer (some ⟨X5, 1, none⟩)) rfl (by kernel_rfl) (fun _ _ _ h => h) HS.out (YR.pure (by rfl) fun w hw => y_f44_1 w rfl rfl) ?_
    simp only [Act.put, List.setIfInBounds_toArray, List.set_cons_zero, List.set_cons_succ]
    refine r_take 5 (.int .i64 0) rfl (by kernel_rfl) (fun _ _ _ h => h) HS.out (YR.pure (by rfl) fun w hw => y_load3 rfl rfl (by rw [(HM.out w hw).is 1 _ rfl, HM5.out])) ?_
    simp only [Act.put, List.setIfInBounds_toArray, List.set_cons_zero, List.set_cons_succ]
    refine r_take 6 (.pointer (some ⟨X5, 2, none⟩)) rfl (by kernel_rfl) (fun _ _ _ h => h) HS.out (YR.pure (by rfl) fun w hw => y_f44_2 w rfl rfl) ?_
    simp only [Act.put, List.setIfInBounds_toArray, List.set_cons_zero, List.set_cons_succ]
    refine r_take 7 (.int .i64 0) rfl (by kernel_rfl) (fun _ _ _ h => h) HS.out (YR.pure (by rfl) fun w hw => y_load3 rfl rfl (by rw [(HM.out w hw).is 2 _ rfl, HM5.out])) ?_
    simp only [Act.put, List.setIfInBounds_toArray, List.set_cons_zero, List.set_cons_succ]
    refine r_take 8 (.pointer (some ⟨X5, 3, none⟩)) rfl (by kernel_rfl) (fun _ _ _ h => h) HS.out (YR.pure (by rfl) fun w hw => y_f44_3 w rfl rfl) ?_
    simp only [Act.put, List.setIfInBounds_toArray, List.set_cons_zero, List.set_cons_succ]
    refine r_take 9 (.int .i64 0) rfl (by kernel_rfl) (fun _ _ _ h => h) HS.out (YR.pure (by rfl) fun w hw => y_load3 rfl rfl (by rw [(HM.out w hw).is 3 _ rfl, HM5.out])) ?_
    simp only [Act.put, List.setIfInBounds_toArray, List.set_cons_zero, List.set_cons_succ]
    refine r_take 10 (.bool false) rfl (by kernel_rfl) (fun _ _ _ h => h) HS.out (YR.call (by rfl) (fun w => y_enter [.pointer (some ⟨b.R, 0, none⟩), .int .i64 0, .int .i64 0, .int .i64 0] rfl (by rfl) (call42_ _) w) fun w hw => (learn_no (HA.out w hw).route 0).mono fun e w' h => ⟨h.1, h.2 ▸ Only.refl _ _⟩) ?_
    simp only [Act.put, List.setIfInBounds_toArray, List.set_cons_zero, List.set_cons_succ]
    refine r_done (by kernel_rfl) fun wz oz => ?_
    have HZ4 : Hid (Bx w wz b s (s.told x m.req) m X5 ∧ Loc wz b (s.told x m.req) X7 x.row ∧ Loc wz b (s.told x m.req) X9 (s.f x.req).op.row) := Lib.hid ⟨HZ3.out.1.on (HS.out.trans oz), HZ3.out.2.1.on (HS.out.trans oz), HZ3.out.2.2.on (HS.out.trans oz)⟩
    clear HZ3 HS oz HA HM
    generalize wz = w4 at HZ4 ⊢
    have k0 : w4.cell? ⟨X5, 0, none⟩ = some (.int .u8 13) := by rw [HZ4.out.1.c5.is 0 _ rfl, HM5.out]
    have k12 : w4.cell? ⟨X5, 12, none⟩ = some (.int .i64 0) := by rw [HZ4.out.1.c5.is 12 _ rfl, HM5.out]
    have k13 : w4.cell? ⟨X5, 13, none⟩ = some (.int .u8 1) := by rw [HZ4.out.1.c5.is 13 _ rfl, HM5.out]
    have k14 : w4.cell? ⟨X5, 14, none⟩ = some (.bool true) := by rw [HZ4.out.1.c5.is 14 _ rfl, HM5.out]
    have k16 : w4.cell? ⟨X5, 16, none⟩ = some (.int .i64 7) := by rw [HZ4.out.1.c5.is 16 _ rfl, HM5.out]
    have q0 : w4.cell? ⟨X9, 0, none⟩ = some (.int .u8 1) := by rw [HZ4.out.2.2.c.is 0 _ rfl, HOP.out]
    have r6 : w4.cell? ⟨X7, 6, none⟩ = some (.bool false) := by rw [HZ4.out.2.1.c.is 6 _ rfl, HMK.out]
    go_upto_region 8 with fail
    have c14 := HZ4.out.1.did.at_.cells.c14
    have e14 : (s.told x m.req).clock = 0 := HCK.out.1
    rw [e14] at c14
    have c5 := HZ4.out.1.did.at_.cells.c5
    have r4 : w4.cell? ⟨X7, 4, none⟩ = some (.int .i64 0) := by rw [HZ4.out.2.1.c.is 4 _ rfl, HCK.out.2]
    clear e14
    go_quiet (fail)
    have HZ5 : Hid (Bx w (w4.drewN nq) b s (s.told x m.req) m X5 ∧ Loc (w4.drewN nq) b (s.told x m.req) X7 x.row) := Lib.hid ⟨HZ4.out.1.on ((Only.refl None' w4).drewN nq), HZ4.out.2.1.on ((Only.refl None' w4).drewN nq)⟩
    clear HZ4 k0 k12 k13 k14 k16 q0 r6 c14 c5 r4
    obtain ⟨w5, hw5⟩ : ∃ w5, w5 = w4.drewN nq := ⟨_, rfl⟩
    rw [← hw5] at HZ5 ⊢
    clear hw5
    go_upto_region 9 with fail
    have HC : Hid (∀ w', Only (Lru.Own b.B b.M (s.told x m.req).l) w5 w' → CellsR w' b.C (cacheR b s.clock)) := Lib.hid fun w' o => HZ5.out.1.did.at_.blk.kept o fun e => HZ5.out.1.did.at_.sep _ e (.inl rfl)
    have HM : Hid (∀ w', Only (Lru.Own b.B b.M (s.told x m.req).l) w5 w' → CellsR w' X5 m.row) := Lib.hid fun w' o => HZ5.out.1.c5.kept o fun e => HZ5.out.1.no (.inl e)
    have H7 : Hid (∀ w', Only (Lru.Own b.B b.M (s.told x m.req).l) w5 w' → CellsR w' X7 x.row) := Lib.hid fun w' o => HZ5.out.2.c.kept o fun e => HZ5.out.2.no (.inl e)
    obtain ⟨HB, HL7⟩ : Hid (Bx w w5 b s (s.told x m.req) m X5) ∧ Hid (Loc w5 b (s.told x m.req) X7 x.row) := ⟨Lib.hid HZ5.out.1, Lib.hid HZ5.out.2⟩
    refine r_begin (S := Lru.Own b.B b.M (s.told x m.req).l) (by kernel_rfl) ?_
    have HS := Lib.hid (Only.refl (Lru.Own b.B b.M (s.told x m.req).l) w5)
    refine r_take 0 (.pointer (some ⟨b.C, 0, none⟩)) rfl (by kernel_rfl) (fun _ _ _ h => h) HS.out (YR.pure (by rfl) fun w hw => y_move w rfl rfl) ?_
    simp only [Act.put, List.setIfInBounds_toArray, List.set_cons_zero, List.set_cons_succ]
    refine r_take 1 (.pointer (some ⟨b.C, 0, none⟩)) rfl (by kernel_rfl) (fun _ _ _ h => h) HS.out (YR.pure (by rfl) fun w hw => y_nil w rfl rfl) ?_
    simp only [Act.put, List.setIfInBounds_toArray, List.set_cons_zero, List.set_cons_succ]
    refine r_take 2 (.pointer (some ⟨b.C, 15, none⟩)) rfl (by kernel_rfl) (fun _ _ _ h => h) HS.out (YR.pure (by rfl) fun w hw => y_f64_3 w rfl rfl) ?_
    simp only [Act.put, List.setIfInBounds_toArray, List.set_cons_zero, List.set_cons_succ]
    refine r_take 3 (.pointer (some ⟨b.B, 0, none⟩)) rfl (by kernel_rfl) (fun _ _ _ h => h) HS.out (YR.pure (by rfl) fun w hw => y_load56 rfl rfl ((HC.out w hw).is 15 _ rfl)) ?_
    simp only [Act.put, List.setIfInBounds_toArray, List.set_cons_zero, List.set_cons_succ]
    refine r_take 4 (.pointer (some ⟨X7, 1, none⟩)) rfl (by kernel_rfl) (fun _ _ _ h => h) HS.out (YR.pure (by rfl) fun w hw => y_f74_1 w rfl rfl) ?_
    simp only [Act.put, List.setIfInBounds_toArray, List.set_cons_zero, List.set_cons_succ]
    refine r_take 5 (.string x.key) rfl (by kernel_rfl) (fun _ _ _ h => h) HS.out (YR.pure (by rfl) fun w hw => y_load9 rfl rfl ((H7.out w hw).is 1 _ rfl)) ?_
    simp only [Act.put, List.setIfInBounds_toArray, List.set_cons_zero, List.set_cons_succ]
    refine r_take 6 (.pointer (some ⟨X5, 13, none⟩)) rfl (by kernel_rfl) (fun _ _ _ h => h) HS.out (YR.pure (by rfl) fun w hw => y_f44_9 w rfl rfl) ?_
    simp only [Act.put, List.setIfInBounds_toArray, List.set_cons_zero, List.set_cons_succ]
    refine r_take 7 (.pointer (some ⟨X5, 15, none⟩)) rfl (by kernel_rfl) (fun _ _ _ h => h) HS.out (YR.pure (by rfl) fun w hw => y_f36_2 w rfl rfl) ?_
    simp only [Act.put, List.setIfInBounds_toArray, List.set_cons_zero, List.set_cons_succ]
    refine r_take 8 (.string m.rv) rfl (by kernel_rfl) (fun _ _ _ h => h) HS.out (YR.pure (by rfl) fun w hw => y_load9 rfl rfl ((HM.out w hw).is 15 _ rfl)) ?_
    simp only [Act.put, List.setIfInBounds_toArray, List.set_cons_zero, List.set_cons_succ]
    refine r_take 9 (.pointer (some ⟨X7, 4, none⟩)) rfl (by kernel_rfl) (fun _ _ _ h => h) HS.out (YR.pure (by rfl) fun w hw => y_f74_4 w rfl rfl) ?_
    simp only [Act.put, List.setIfInBounds_toArray, List.set_cons_zero, List.set_cons_succ]
    refine r_take 10 (.int .i64 0) rfl (by kernel_rfl) (fun _ _ _ h => h) HS.out (YR.pure (by rfl) fun w hw => y_load3 rfl rfl (by rw [(H7.out w hw).is 4 _ rfl, HCK.out.2])) ?_
    simp only [Act.put, List.setIfInBounds_toArray, List.set_cons_zero, List.set_cons_succ]
    refine r_take 11 (.pointer (some ⟨b.C, 0, none⟩)) rfl (by kernel_rfl) (fun _ _ _ h => h) HS.out (YR.pure (by rfl) fun w hw => y_move w rfl rfl) ?_
    simp only [Act.put, List.setIfInBounds_toArray, List.set_cons_zero, List.set_cons_succ]
    refine r_take 12 (.pointer (some ⟨b.C, 0, none⟩)) rfl (by kernel_rfl) (fun _ _ _ h => h) HS.out (YR.pure (by rfl) fun w hw => y_nil w rfl rfl) ?_
    simp only [Act.put, List.setIfInBounds_toArray, List.set_cons_zero, List.set_cons_succ]
    refine r_take 13 (.pointer (some ⟨b.C, 0, none⟩)) rfl (by kernel_rfl) (fun _ _ _ h => h) HS.out (YR.pure (by rfl) fun w hw => y_f64_0 w rfl rfl) ?_
    simp only [Act.put, List.setIfInBounds_toArray, List.set_cons_zero, List.set_cons_succ]
    refine r_take 14 (.pointer (some ⟨b.C, 5, none⟩)) rfl (by kernel_rfl) (fun _ _ _ h => h) HS.out (YR.pure (by rfl) fun w hw => y_f28_5 w rfl rfl) ?_
    simp only [Act.put, List.setIfInBounds_toArray, List.set_cons_zero, List.set_cons_succ]
    refine r_take 15 (.int .i64 5) rfl (by kernel_rfl) (fun _ _ _ h => h) HS.out (YR.pure (by rfl) fun w hw => y_load3 rfl rfl ((HC.out w hw).is 5 _ rfl)) ?_
    simp only [Act.put, List.setIfInBounds_toArray, List.set_cons_zero, List.set_cons_succ]
    refine r_take 16 (.int .i64 5) rfl (by kernel_rfl) (fun _ _ _ h => h) HS.out (YR.pure (by rfl) fun w hw => y_add3e w (p := 0) (q := 5) (by kernel_rfl) rfl rfl rfl) ?_
    simp only [Act.put, List.setIfInBounds_toArray, List.set_cons_zero, List.set_cons_succ]
    refine r_take 17 (.pointer (some ⟨X5, 16, none⟩)) rfl (by kernel_rfl) (fun _ _ _ h => h) HS.out (YR.pure (by rfl) fun w hw => y_f44_10 w rfl rfl) ?_
    simp only [Act.put, List.setIfInBounds_toArray, List.set_cons_zero, List.set_cons_succ]
    refine r_take 18 (.int .i64 m.grant) rfl (by kernel_rfl) (fun _ _ _ h => h) HS.out (YR.pure (by rfl) fun w hw => y_load3 rfl rfl ((HM.out w hw).is 16 _ rfl)) ?_
    simp only [Act.put, List.setIfInBounds_toArray, List.set_cons_zero, List.set_cons_succ]
    refine r_take 19 (.agg #[.string x.key, .string m.rv, .int .i64 5, .int .i64 m.grant]) rfl (by kernel_rfl) (fun _ _ _ h => h) HS.out (YR.pure (by rfl) fun w hw => y_build w rfl (by kernel_rfl)) ?_
    simp only [Act.put, List.setIfInBounds_toArray, List.set_cons_zero, List.set_cons_succ]
    refine r_one 20 rfl (by kernel_rfl) (by rfl) fun wi oi => ?_
    refine wp_enter (y_enter [.pointer (some ⟨b.B, 0, none⟩), .agg #[.string x.key, .string m.rv, .int .i64 5, .int .i64 m.grant]] rfl (by rfl) (call45_ _) wi) ((put_c (HB.out.did.at_.new oi) HL.out ⟨x.key, m.rv, 5, m.grant⟩ (by have h1 := HSZ.out; have h2 : m.rv = rv := (by rw [HM5.out]); show x.key.size + m.rv.size ≤ 1000; rw [h2]; omega)).mono ?_)
    rintro e wj ⟨rfl, xn, hd, oj⟩
    refine ⟨_, rfl, (HS.out.quiet oi).trans oj, ?_⟩
    simp only [Act.put, List.setIfInBounds_toArray, List.set_cons_zero, List.set_cons_succ]
    have HT := Lib.hid ((HS.out.quiet oi).trans oj)
    have HB2 := Lib.hid ((HB.out.on oi).to (hd))
    have HL8 := Lib.hid ((HL7.out.on oi).to hd)
    clear HS oi oj hd
    have HS := HT
    clear HT
    refine r_take 21 (.bool true) rfl (by kernel_rfl) (fun _ _ _ h => h) HS.out (YR.pure (by rfl) fun w hw => y_eq24 w (p := 0) (q := 0) rfl rfl rfl) ?_
    simp only [Act.put, List.setIfInBounds_toArray, List.set_cons_zero, List.set_cons_succ]
    refine r_done (by kernel_rfl) fun wz oz => ?_
    obtain ⟨s2, hs2⟩ : ∃ s2 : Cs, s2 = { s.told x m.req with l := [(xn, ⟨x.key, m.rv, 5, m.grant⟩)] } := ⟨_, rfl⟩
    rw [← hs2] at HB2 HL8
    have HS2 := Lib.hid hs2
    have HZ6 : Hid (Bx w wz b s s2 m X5 ∧ Loc wz b s2 X7 x.row) := Lib.hid ⟨HB2.out.on oz, HL8.out.on oz⟩
    clear HZ5 HB HL7 HB2 HL8 HS oz HC HM H7 hs2
    generalize wz = w6 at HZ6 ⊢
    go_upto_region 10 with fail
    have HC : Hid (∀ w', Only (fun k => k = b.Mc) w6 w' → CellsR w' b.C (cacheR b s2.clock)) := Lib.hid fun w' o => HZ6.out.1.did.at_.blk.kept o (by have := HZ6.out.1.did.at_.apart; omega)
    have H7 : Hid (∀ w', Only (fun k => k = b.Mc) w6 w' → CellsR w' X7 x.row) := Lib.hid fun w' o => HZ6.out.2.c.kept o fun e => HZ6.out.2.no (.inr (.inr (.inr (.inl e))))
    obtain ⟨vm, hvm⟩ : ∃ vm, ∀ wi, Only None' w6 wi → Calls Try.prog 46 #[.pointer (some ⟨b.Bc, 0, none⟩), .string x.key] wi fun r w' => r = .returned vm ∧ Did b s2 { s2 with c := s2.c.mark x.key } wi w' ∧ Only (fun k => k = b.Mc) wi w' :=
      ⟨_, fun wi o => (mark_any (HZ6.out.1.did.at_.new o).calls x.key).mono fun r w' h' => ⟨h'.1, (HZ6.out.1.did.at_.new o).calls_to h'.2.1 (h'.2.2.mono fun _ _ e => .inr e), h'.2.2⟩⟩
    have HVM := Lib.hid hvm
    obtain ⟨HB, HL7⟩ : Hid (Bx w w6 b s s2 m X5) ∧ Hid (Loc w6 b s2 X7 x.row) := ⟨Lib.hid HZ6.out.1, Lib.hid HZ6.out.2⟩
    clear hvm
    refine r_begin (S := fun k => k = b.Mc) (by kernel_rfl) ?_
    have HS := Lib.hid (Only.refl (fun k => k = b.Mc) w6)
    refine r_take 0 (.pointer (some ⟨b.C, 0, none⟩)) rfl (by kernel_rfl) (fun _ _ _ h => h) HS.out (YR.pure (by rfl) fun w hw => y_move w rfl rfl) ?_
    simp only [Act.put, List.setIfInBounds_toArray, List.set_cons_zero, List.set_cons_succ]
    refine r_take 1 (.pointer (some ⟨b.C, 0, none⟩)) rfl (by kernel_rfl) (fun _ _ _ h => h) HS.out (YR.pure (by rfl) fun w hw => y_nil w rfl rfl) ?_
    simp only [Act.put, List.setIfInBounds_toArray, List.set_cons_zero, List.set_cons_succ]
    refine r_take 2 (.pointer (some ⟨b.C, 17, none⟩)) rfl (by kernel_rfl) (fun _ _ _ h => h) HS.out (YR.pure (by rfl) fun w hw => y_f64_5 w rfl rfl) ?_
    simp only [Act.put, List.setIfInBounds_toArray, List.set_cons_zero, List.set_cons_succ]
    refine r_take 3 (.pointer (some ⟨b.Bc, 0, none⟩)) rfl (by kernel_rfl) (fun _ _ _ h => h) HS.out (YR.pure (by rfl) fun w hw => y_load53 rfl rfl ((HC.out w hw).is 17 _ rfl)) ?_
    simp only [Act.put, List.setIfInBounds_toArray, List.set_cons_zero, List.set_cons_succ]
    refine r_take 4 (.pointer (some ⟨X7, 1, none⟩)) rfl (by kernel_rfl) (fun _ _ _ h => h) HS.out (YR.pure (by rfl) fun w hw => y_f74_1 w rfl rfl) ?_
    simp only [Act.put, List.setIfInBounds_toArray, List.set_cons_zero, List.set_cons_succ]
    refine r_take 5 (.string x.key) rfl (by kernel_rfl) (fun _ _ _ h => h) HS.out (YR.pure (by rfl) fun w hw => y_load9 rfl rfl ((H7.out w hw).is 1 _ rfl)) ?_
    simp only [Act.put, List.setIfInBounds_toArray, List.set_cons_zero, List.set_cons_succ]
    refine r_one 6 rfl (by kernel_rfl) (by rfl) fun wi oi => ?_
    refine wp_enter (y_enter [.pointer (some ⟨b.Bc, 0, none⟩), .string x.key] rfl (by rfl) (call46_ _) wi) ((HVM.out wi oi).mono ?_)
    rintro e wj ⟨rfl, hd, oj⟩
    refine ⟨_, rfl, (HS.out.quiet oi).trans oj, ?_⟩
    simp only [Act.put, List.setIfInBounds_toArray, List.set_cons_zero, List.set_cons_succ]
    have HT := Lib.hid ((HS.out.quiet oi).trans oj)
    have HB2 := Lib.hid ((HB.out.on oi).to (hd))
    have HL8 := Lib.hid ((HL7.out.on oi).to hd)
    clear HS oi oj hd
    have HS := HT
    clear HT
    refine r_done (by kernel_rfl) fun wz oz => ?_
    have e2 : ({ s2 with c := s2.c.mark x.key } : Cs) = s.kept x m xn := by rw [HS2.out]; rfl
    rw [e2] at HB2 HL8
    have HZ7 : Hid (Bx w wz b s (s.kept x m xn) m X5 ∧ Loc wz b (s.kept x m xn) X7 x.row) := Lib.hid ⟨HB2.out.on oz, HL8.out.on oz⟩
    clear HZ6 HB HL7 HB2 HL8 HS oz HC H7 e2 HVM
    generalize wz = w7 at HZ7 ⊢
    go_upto_region 11 with fail
    have HA : Hid (∀ w', Only None' w7 w' → CacheAt w' b (s.kept x m xn)) := Lib.hid fun w' o => HZ7.out.1.did.at_.new o
    have HM : Hid (∀ w', Only None' w7 w' → CellsR w' X5 m.row) := Lib.hid fun w' o => HZ7.out.1.c5.kept o fun e => e
    have H7 : Hid (∀ w', Only None' w7 w' → CellsR w' X7 x.row) := Lib.hid fun w' o => HZ7.out.2.c.kept o fun e => e
    refine r_begin (S := None') (by kernel_rfl) ?_
    have HS := Lib.hid (Only.refl (None') w7)
    refine r_take 0 (.pointer (some ⟨b.C, 0, none⟩)) rfl (by kernel_rfl) (fun _ _ _ h => h) HS.out (YR.pure (by rfl) fun w hw => y_move w rfl rfl) ?_
    simp only [Act.put, List.setIfInBounds_toArray, List.set_cons_zero, List.set_cons_succ]
    refine r_take 1 (.pointer (some ⟨X7, 2, none⟩)) rfl (by kernel_rfl) (fun _ _ _ h => h) HS.out (YR.pure (by rfl) fun w hw => y_f74_2 w rfl rfl) ?_
    simp only [Act.put, List.setIfInBounds_toArray, List.set_cons_zero, List.set_cons_succ]
    refine r_take 2 (.int .i64 x.client) rfl (by kernel_rfl) (fun _ _ _ h => h) HS.out (YR.pure (by rfl) fun w hw => y_load3 rfl rfl ((H7.out w hw).is 2 _ rfl)) ?_
    simp only [Act.put, List.setIfInBounds_toArray, List.set_cons_zero, List.set_cons_succ]
    refine r_take 3 (.pointer (some ⟨b.C, 0, none⟩)) rfl (by kernel_rfl) (fun _ _ _ h => h) HS.out (YR.pure (by rfl) fun w hw => y_move w rfl rfl) ?_
    simp only [Act.put, List.setIfInBounds_toArray, List.set_cons_zero, List.set_cons_succ]
    refine r_take 4 (.pointer (some ⟨X7, 1, none⟩)) rfl (by kernel_rfl) (fun _ _ _ h => h) HS.out (YR.pure (by rfl) fun w hw => y_f74_1 w rfl rfl) ?_
    simp only [Act.put, List.setIfInBounds_toArray, List.set_cons_zero, List.set_cons_succ]
    refine r_take 5 (.string x.key) rfl (by kernel_rfl) (fun _ _ _ h => h) HS.out (YR.pure (by rfl) fun w hw => y_load9 rfl rfl ((H7.out w hw).is 1 _ rfl)) ?_
    simp only [Act.put, List.setIfInBounds_toArray, List.set_cons_zero, List.set_cons_succ]
    refine r_take 6 (.int .i64 0) rfl (by kernel_rfl) (fun _ _ _ h => h) HS.out (YR.call (by rfl) (fun w => y_enter [.pointer (some ⟨b.C, 0, none⟩), .string x.key] rfl (by rfl) (call38_ _) w) fun w hw => place38_any (HA.out w hw).cells.c3 x.key HKS.out) ?_
    simp only [Act.put, List.setIfInBounds_toArray, List.set_cons_zero, List.set_cons_succ]
    refine r_take 7 (.pointer (some ⟨X7, 3, none⟩)) rfl (by kernel_rfl) (fun _ _ _ h => h) HS.out (YR.pure (by rfl) fun w hw => y_f74_3 w rfl rfl) ?_
    simp only [Act.put, List.setIfInBounds_toArray, List.set_cons_zero, List.set_cons_succ]
    refine r_take 8 (.int .i64 x.id) rfl (by kernel_rfl) (fun _ _ _ h => h) HS.out (YR.pure (by rfl) fun w hw => y_load3 rfl rfl ((H7.out w hw).is 3 _ rfl)) ?_
    simp only [Act.put, List.setIfInBounds_toArray, List.set_cons_zero, List.set_cons_succ]
    refine r_take 9 (.pointer (some ⟨X5, 12, none⟩)) rfl (by kernel_rfl) (fun _ _ _ h => h) HS.out (YR.pure (by rfl) fun w hw => y_f44_8 w rfl rfl) ?_
    simp only [Act.put, List.setIfInBounds_toArray, List.set_cons_zero, List.set_cons_succ]
    refine r_take 10 (.int .i64 m.code) rfl (by kernel_rfl) (fun _ _ _ h => h) HS.out (YR.pure (by rfl) fun w hw => y_load24 rfl rfl ((HM.out w hw).is 12 _ rfl)) ?_
    simp only [Act.put, List.setIfInBounds_toArray, List.set_cons_zero, List.set_cons_succ]
    refine r_take 11 (.pointer (some ⟨X5, 13, none⟩)) rfl (by kernel_rfl) (fun _ _ _ h => h) HS.out (YR.pure (by rfl) fun w hw => y_f44_9 w rfl rfl) ?_
    simp only [Act.put, List.setIfInBounds_toArray, List.set_cons_zero, List.set_cons_succ]
    refine r_take 12 (resV m.rk m.rf m.rv) rfl (by kernel_rfl) (fun _ _ _ h => h) HS.out (YR.pure (by rfl) fun w hw => y_load36 rfl rfl ((HM.out w hw).is 13 _ rfl) ((HM.out w hw).is 14 _ rfl) ((HM.out w hw).is 15 _ rfl)) ?_
    simp only [Act.put, List.setIfInBounds_toArray, List.set_cons_zero, List.set_cons_succ]
    refine r_take 13 (.pointer (some ⟨X5, 2, none⟩)) rfl (by kernel_rfl) (fun _ _ _ h => h) HS.out (YR.pure (by rfl) fun w hw => y_f44_2 w rfl rfl) ?_
    simp only [Act.put, List.setIfInBounds_toArray, List.set_cons_zero, List.set_cons_succ]
    refine r_take 14 (.int .i64 m.epoch) rfl (by kernel_rfl) (fun _ _ _ h => h) HS.out (YR.pure (by rfl) fun w hw => y_load3 rfl rfl ((HM.out w hw).is 2 _ rfl)) ?_
    simp only [Act.put, List.setIfInBounds_toArray, List.set_cons_zero, List.set_cons_succ]
    refine r_take 15 (.pointer (some ⟨X5, 3, none⟩)) rfl (by kernel_rfl) (fun _ _ _ h => h) HS.out (YR.pure (by rfl) fun w hw => y_f44_3 w rfl rfl) ?_
    simp only [Act.put, List.setIfInBounds_toArray, List.set_cons_zero, List.set_cons_succ]
    refine r_take 16 (.int .i64 m.owner) rfl (by kernel_rfl) (fun _ _ _ h => h) HS.out (YR.pure (by rfl) fun w hw => y_load3 rfl rfl ((HM.out w hw).is 3 _ rfl)) ?_
    simp only [Act.put, List.setIfInBounds_toArray, List.set_cons_zero, List.set_cons_succ]
    refine r_take 17 (.agg (Mg.row (tellM x m)).toArray) rfl (by kernel_rfl) (fun _ _ _ h => h) HS.out (YR.pure (by rfl) fun w hw => y_build w rfl (by kernel_rfl)) ?_
    simp only [Act.put, List.setIfInBounds_toArray, List.set_cons_zero, List.set_cons_succ]
    refine r_one 18 rfl (by kernel_rfl) (by rfl) fun wi oi => ?_
    refine wp_enter (y_enter [.pointer (some ⟨b.C, 0, none⟩), .int .i64 x.client, (tellM x m).v] rfl (by rfl) (call37_ _) wi) ((mail_any (HA.out _ (HS.out.trans oi)).cells.c13 (HA.out _ (HS.out.trans oi)).cells.lt x.client (tellM x m)).mono ?_)
    rintro e wj ⟨v, R, rfl, hm, hR, oj⟩
    refine ⟨_, rfl, HS.out.trans (oi.trans oj), ?_⟩
    simp only [Act.put, List.setIfInBounds_toArray, List.set_cons_zero, List.set_cons_succ]
    have HT := Lib.hid (HS.out.trans (oi.trans oj))
    have HD3 := Lib.hid (And.intro (HZ7.out.1.did.new HT.out) (And.intro hm (And.intro (Nat.le_trans (HZ7.out.1.did.new (HS.out.trans oi)).kept.only.size hR) ((HA.out _ (HS.out.trans oi)).not_own hR))))
    clear HS oi oj hm hR
    have HS := HT
    clear HT
    refine r_take 19 (v) rfl (by kernel_rfl) (fun _ _ _ h => h) HS.out (YR.pure (by rfl) fun w hw => y_assign w rfl rfl) ?_
    simp only [Act.put, List.setIfInBounds_toArray, List.set_cons_zero, List.set_cons_succ]
    refine r_done (by kernel_rfl) fun wz oz => ?_
    have HQ := Lib.hid oz
    clear oz
    go_wp2_with fail
    go_ret
    obtain ⟨hd, hm, hR, hN⟩ := HD3.out
    exact ⟨xn, v, rfl, ⟨R, hm.only HQ.out fun e => e, hR, hN⟩, hd.new HQ.out⟩
end Go.Proofs.Ytfmpidacklhmaaa
