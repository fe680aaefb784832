/- X6 X7 X8 in one text. -/
import Derived.Test.YteoeaojebklfjaaGreatDoorWCrashes6
namespace Go.Proofs.YteoeaojebklfjaaGreatDoor
open Go.RowKit Go.Maps
set_option linter.unusedVariables false
set_option linter.unusedSimpArgs false
set_option maxRecDepth 20000
def DieOut (w0 : Fr) (D : Nat) (d' : Dk) (e : Ending) (w' : World) : Prop :=
  ∃ (x : Value) (L : Lo) (R : Nat) (F : Nat → Prop) (s : Sy) (M : Nat) (v : Mv) (m : Mi), e = .returned (.tuple #[x, .bool false, .bool true]) ∧ Bo w0 w' L R F s M v m ∧ L.D = D ∧ s.d = d'
section
variable {w0 : Fr} {w w' : World} {L L' : Lo} {R R' : Nat} {F F' : Nat → Prop} {s s' : Sy} {M : Nat} {v v' : Mv} {m m' : Mi} {len n : Nat} {G K : List Nat}
theorem SyAt.redisk (h : SyAt w L R F s) {d' : Dk} (hd : DiskAt w' L.D F' d') (k : Kept F F' w w') : SyAt w' L R F' ⟨s.p, s.r, d'⟩ ∧ To w w' L R F L R F' := by
  refine ⟨⟨h.pg.only k.only fun i hi e => h.ap i hi e, h.ring.kept k.only fun e => h.rf e, hd, fun i hi e => ?_, h.rp, fun e => ?_⟩, ⟨rfl, rfl, k.only.mono fun i _ hi => .inr (.inr hi), fun i hi => .inl hi, k.fresh⟩⟩
  · rcases k.fresh i e with e2 | e2
    · exact h.ap i hi e2
    · have := h.pg.lt hi; omega
  · rcases k.fresh R e with e2 | e2
    · exact h.rf e2
    · have := h.ring.lt; omega
theorem hasDied {x : Value} (h : Bo w0 w L R F s M v m) (hd : s.d.dead = true) : Calls Tryz.prog 32 #[.pointer (some ⟨L.D, 0, none⟩)] w fun e w' => e = .returned (.bool true) ∧ w = w' :=
  (dead_any h.sy.disk).mono fun e w' ⟨a, b⟩ => ⟨by rw [a, hd], b.symm⟩
set_option maxHeartbeats 2000000 in
theorem do4_die (h : Bo w0 w L R F s M v m) (l : Li s len n G K) (hn : n ≤ 400000) (lm : Lim s m) (hsm : Same s m) (st : Stp) (hk : st.kind = 4)(ro : Ro s) (hc : s.commit = (20, s') ∧ s'.d.dead = true) (hch : ¬ s.d.lasts.length / 8 < m.ch.length) (hr : m.root = 0 ∨ 0 ≤ findP m.now m.root) (hl' : s.d.lasts.length = s'.d.lasts.length) : Calls Tryz.prog 24 #[.pointer (some ⟨L.D, 0, none⟩), .pointer (some ⟨L.P, 0, none⟩), .pointer (some ⟨M, 0, none⟩), st.v] w (DieOut w0 L.D s'.d) := by
  obtain ⟨kind, at_, what, odd⟩ := st
  simp only at hk ⊢
  subst hk
  have HP := Lib.hid fun w' (o : Only None' w w') => page_any (h.new o).mi ⟨4, at_, what, odd⟩ lm.now
  unfold Stp.v at HP ⊢
  obtain ⟨cv, hcv⟩ : ∃ cv, cv = (what.toNat : Int) := ⟨_, rfl⟩
  simp only [← hcv] at HP ⊢
  have HCV := Lib.hid hcv
  have H := Lib.hid (And.intro h (And.intro l (And.intro lm (And.intro hn hsm))))
  clear h l lm hn hsm hcv
  have HC := Lib.hid (And.intro ro (And.intro hc (And.intro hch (And.intro hr hl'))))
  clear ro hc hch hr hl'
  go_enter Tryz.func24, Tryz.ntmps24
  go_wp2_with fail
  refine (HP.out _ ((Only.refl None' w).alloc _)).mono ?_
  rintro e w2 ⟨nn, rfl, o2⟩
  have H2 := Lib.hid (H.out.1.new (((Only.refl None' w).alloc _).trans o2))
  have HKC : Hid (w2.cell? ⟨w.heap.size, 0, none⟩ = some (.int .i64 4)) := Lib.hid (by rw [o2.cell (by simp) fun e => e, World.cell?_alloc_new]; rfl)
  clear o2
  go_wp2_with fail
  refine (mfind H2.out.mi nn H.out.2.2.1.now).mono ?_
  rintro e w3 ⟨rfl, rfl⟩
  have hkc := HKC.out
  go_wp2_with fail
  refine (commit_any H2.out.sy H.out.2.1.lv.ok HC.out.1.rok H.out.2.1.dead H.out.2.1.few (by have := H.out.2.2.2.1; omega) HC.out.1.l8 HC.out.1.fit HC.out.1.now).mono ?_
  rw [HC.out.2.1.1]
  rintro e w4 ⟨rfl, L4, R4, F4, h4, t4⟩
  have H4 := Lib.hid (And.intro (H2.out.sys h4 t4) (And.intro t4.P t4.D))
  obtain ⟨av, cv2, hvc, _, _⟩ := H4.out.1.mi.ch.shape
  obtain ⟨cl, hcl⟩ : ∃ cl, cl = m.ch.length := ⟨_, rfl⟩
  obtain ⟨ln, hln⟩ : ∃ ln, ln = s.d.lasts.length := ⟨_, rfl⟩
  obtain ⟨ql, hql⟩ : ∃ ql, ln / 8 = ql := ⟨_, rfl⟩
  have HQ := Lib.hid (And.intro hcl (And.intro hln (And.intro hql (show ln ≤ 1000 by have := HC.out.1.few; omega))))
  have HCC : Hid (∀ w', Only None' w4 w' → w'.cell? ⟨M, 5, none⟩ = some (.slice av cl cv2)) := Lib.hid fun w' o => by
    have := (H4.out.1.mi.new o).cells.is 5 _ rfl
    rw [hvc, ← hcl] at this
    exact this
  have HLN : Hid (∀ w', Only None' w4 w' → Calls Tryz.prog 41 #[.pointer (some ⟨L.D, 0, none⟩)] w' fun e w'' => e = .returned (.int .i64 (ln : Int)) ∧ Only None' w' w'') := Lib.hid fun w' o => by
    have := len_any (h4.disk.only o fun _ _ e => e)
    rw [t4.D] at this
    rw [hln, HC.out.2.2.2.2]
    exact this.mono fun e w2 h => ⟨h.1, by rw [h.2]; exact Only.refl _ _⟩
  have hbb : decide ((ql : Int) < (cl : Int)) = false := by have := HC.out.2.2.1; rw [← hln, ← hcl, hql] at this; simp; omega
  have HBB := Lib.hid hbb
  clear h4 t4 hkc hvc hcl hln hql hbb
  go_upto_region 42 with fail
  refine r_begin (S := None') (by kernel_rfl) ?_
  have HS := Lib.hid (Only.refl (None') w4)
  refine r_take 0 (.pointer (some ⟨M, 0, none⟩)) rfl (by kernel_rfl) (fun _ _ _ h => h) HS.out (YR.pure (by rfl) fun w hw => y_move w rfl rfl) ?_
  simp only [Act.put, zA, zB, zC]
  refine r_take 1 (.pointer (some ⟨M, 0, none⟩)) rfl (by kernel_rfl) (fun _ _ _ h => h) HS.out (YR.pure (by rfl) fun w hw => y_nil w rfl rfl) ?_
  simp only [Act.put, zA, zB, zC]
  refine r_take 2 (.pointer (some ⟨M, 5, none⟩)) rfl (by kernel_rfl) (fun _ _ _ h => h) HS.out (YR.pure (by rfl) fun w hw => y_f50_5 w rfl rfl) ?_
  simp only [Act.put, zA, zB, zC]
  refine r_take 3 (.slice av cl cv2) rfl (by kernel_rfl) (fun _ _ _ h => h) HS.out (YR.pure (by rfl) fun w hw => y_load28 rfl rfl (HCC.out w hw)) ?_
  simp only [Act.put, zA, zB, zC]
  refine r_take 4 (.int .i64 (cl : Int)) rfl (by kernel_rfl) (fun _ _ _ h => h) HS.out (YR.pure (by rfl) fun w hw => y_len28 rfl rfl) ?_
  simp only [Act.put, zA, zB, zC]
  refine r_take 5 (.pointer (some ⟨L.D, 0, none⟩)) rfl (by kernel_rfl) (fun _ _ _ h => h) HS.out (YR.pure (by rfl) fun w hw => y_move w rfl rfl) ?_
  simp only [Act.put, zA, zB, zC]
  refine r_take 6 (.int .i64 (ln : Int)) rfl (by kernel_rfl) (fun _ _ _ h => h) HS.out (YR.call (by rfl) (fun w => y_enter [.pointer (some ⟨L.D, 0, none⟩)] rfl (by rfl) (call41_ _) w) fun w hw => HLN.out w hw) ?_
  simp only [Act.put, zA, zB, zC]
  refine r_take 7 (.int .i64 (ql : Int)) rfl (by kernel_rfl) (fun _ _ _ h => h) HS.out (YR.pure (by rfl) fun w hw => y_quo3 w HQ.out.2.2.1 (by decide) (by have := HQ.out.2.2.2; omega) rfl rfl rfl) ?_
  simp only [Act.put, zA, zB, zC]
  refine r_take 8 (.bool false) rfl (by kernel_rfl) (fun _ _ _ h => h) HS.out (YR.pure (by rfl) fun w hw => y_gtr3 w HBB.out rfl rfl rfl) ?_
  simp only [Act.put, zA, zB, zC]
  refine r_done (by kernel_rfl) fun wz oz => ?_
  have H5 := Lib.hid (H4.out.1.new (HS.out.quiet oz))
  clear HS oz HCC HLN
  have hc3 := H5.out.mi.cells.is 3 _ rfl
  by_cases h0 : m.root = 0
  · have hr0 : (m.root != 0) = false := by simpa using h0
    clear h0
    have HDD := Lib.hid (hasDied (x := .bool true) H5.out HC.out.2.1.2)
    rw [H4.out.2.2] at HDD
    go_wp2_with fail
    refine HDD.out.mono ?_
    rintro e w7 ⟨rfl, rfl⟩
    go_wp2_with fail
    go_ret3
    exact ⟨_, _, _, _, _, _, _, _, rfl, H5.out, H4.out.2.2, rfl⟩
  · have hr0 : (m.root != 0) = true := by simpa using h0
    have hfr : ¬ findP m.now m.root < 0 := by have := HC.out.2.2.2.1.resolve_left h0; omega
    obtain ⟨fr, hfr2⟩ : ∃ fr, fr = findP m.now m.root := ⟨_, rfl⟩
    have HFD := Lib.hid (mfind H5.out.mi m.root H.out.2.2.1.now)
    rw [← hfr2] at HFD hfr
    have hfr0 : 0 ≤ fr := by omega
    clear h0 hfr2
    go_wp2_with fail
    refine HFD.out.mono ?_
    rintro e w5 ⟨rfl, rfl⟩
    have HDD := Lib.hid (hasDied (x := .bool true) H5.out HC.out.2.1.2)
    rw [H4.out.2.2] at HDD
    go_wp2_with fail
    refine HDD.out.mono ?_
    rintro e w7 ⟨rfl, rfl⟩
    go_wp2_with fail
    go_ret3
    exact ⟨_, _, _, _, _, _, _, _, rfl, H5.out, H4.out.2.2, rfl⟩
set_option maxHeartbeats 2000000 in
theorem do6_die (h : Bo w0 w L R F s M v m) (l : Li s len n G K) (hn : n ≤ 400000) (lm : Lim s m) (hsm : Same s m) (st : Stp) (hk : st.kind = 6)(ro : Ro s) (hc : s.settle s.r.top = (20, s')) (hd : s'.d.dead = true) : Calls Tryz.prog 24 #[.pointer (some ⟨L.D, 0, none⟩), .pointer (some ⟨L.P, 0, none⟩), .pointer (some ⟨M, 0, none⟩), st.v] w (DieOut w0 L.D s'.d) := by
  obtain ⟨kind, at_, what, odd⟩ := st
  simp only at hk ⊢
  subst hk
  have HP := Lib.hid fun w' (o : Only None' w w') => page_any (h.new o).mi ⟨6, at_, what, odd⟩ lm.now
  unfold Stp.v at HP ⊢
  obtain ⟨cv, hcv⟩ : ∃ cv, cv = (what.toNat : Int) := ⟨_, rfl⟩
  simp only [← hcv] at HP ⊢
  have HCV := Lib.hid hcv
  have H := Lib.hid (And.intro h (And.intro l (And.intro lm (And.intro hn hsm))))
  clear h l lm hn hsm hcv
  have HC := Lib.hid (And.intro ro (And.intro hc hd))
  clear ro hc hd
  go_enter Tryz.func24, Tryz.ntmps24
  go_wp2_with fail
  refine (HP.out _ ((Only.refl None' w).alloc _)).mono ?_
  rintro e w2 ⟨nn, rfl, o2⟩
  have H2 := Lib.hid (H.out.1.new (((Only.refl None' w).alloc _).trans o2))
  have HKC : Hid (w2.cell? ⟨w.heap.size, 0, none⟩ = some (.int .i64 6)) := Lib.hid (by rw [o2.cell (by simp) fun e => e, World.cell?_alloc_new]; rfl)
  clear o2
  go_wp2_with fail
  refine (mfind H2.out.mi nn H.out.2.2.1.now).mono ?_
  rintro e w3 ⟨rfl, rfl⟩
  have hkc := HKC.out
  go_wp2_with fail
  refine (Settle_any H2.out.sy H.out.2.1.lv.ok H.out.2.1.dead H.out.2.1.few (by have := H.out.2.2.2.1; omega) HC.out.1.l8 HC.out.1.top).mono ?_
  rw [HC.out.2.1]
  rintro e w4 ⟨rfl, L4, R4, F4, h4, t4⟩
  have H4 := Lib.hid (And.intro (H2.out.sys h4 t4) (And.intro t4.P t4.D))
  have HDD := Lib.hid (hasDied (x := .bool true) H4.out.1 HC.out.2.2)
  rw [H4.out.2.2] at HDD
  clear h4 t4 hkc
  go_wp2_with fail
  refine HDD.out.mono ?_
  rintro e w7 ⟨rfl, rfl⟩
  go_wp2_with fail
  go_ret3
  exact ⟨_, _, _, _, _, _, _, _, rfl, H4.out.1, H4.out.2.2, rfl⟩
set_option maxHeartbeats 2000000 in
theorem do7_die (h : Bo w0 w L R F s M v m) (l : Li s len n G K) (hn : n ≤ 400000) (lm : Lim s m) (hsm : Same s m) (st : Stp) (hk : ∀ q : Int, 0 ≤ q → q ≤ 6 → st.kind ≠ q)(ro : Ro s) (hc : (openS s.d).1 = 20) (hd : (openS s.d).2.d.dead = true) : Calls Tryz.prog 24 #[.pointer (some ⟨L.D, 0, none⟩), .pointer (some ⟨L.P, 0, none⟩), .pointer (some ⟨M, 0, none⟩), st.v] w (DieOut w0 L.D (openS s.d).2.d) := by
  obtain ⟨kind, at_, what, odd⟩ := st
  simp only at hk ⊢
  have hk0 : (kind == 0) = false := by have := hk 0 (by decide) (by decide); simpa using this
  have hk1 : (kind == 1) = false := by have := hk 1 (by decide) (by decide); simpa using this
  have hk2 : (kind == 2) = false := by have := hk 2 (by decide) (by decide); simpa using this
  have hk3 : (kind == 3) = false := by have := hk 3 (by decide) (by decide); simpa using this
  have hk4 : (kind == 4) = false := by have := hk 4 (by decide) (by decide); simpa using this
  have hk5 : (kind == 5) = false := by have := hk 5 (by decide) (by decide); simpa using this
  have hk6 : (kind == 6) = false := by have := hk 6 (by decide) (by decide); simpa using this
  clear hk
  have HP := Lib.hid fun w' (o : Only None' w w') => page_any (h.new o).mi ⟨kind, at_, what, odd⟩ lm.now
  unfold Stp.v at HP ⊢
  obtain ⟨cv, hcv⟩ : ∃ cv, cv = (what.toNat : Int) := ⟨_, rfl⟩
  simp only [← hcv] at HP ⊢
  have HCV := Lib.hid hcv
  have H := Lib.hid (And.intro h (And.intro l (And.intro lm (And.intro hn hsm))))
  clear h l lm hn hsm hcv
  have HC := Lib.hid (And.intro ro (And.intro hc hd))
  clear ro hc hd
  go_enter Tryz.func24, Tryz.ntmps24
  go_wp2_with fail
  refine (HP.out _ ((Only.refl None' w).alloc _)).mono ?_
  rintro e w2 ⟨nn, rfl, o2⟩
  have H2 := Lib.hid (H.out.1.new (((Only.refl None' w).alloc _).trans o2))
  have HKC : Hid (w2.cell? ⟨w.heap.size, 0, none⟩ = some (.int .i64 kind)) := Lib.hid (by rw [o2.cell (by simp) fun e => e, World.cell?_alloc_new]; rfl)
  clear o2
  go_wp2_with fail
  refine (mfind H2.out.mi nn H.out.2.2.1.now).mono ?_
  rintro e w3 ⟨rfl, rfl⟩
  have hkc := HKC.out
  go_wp2_with fail
  refine (Open_any H2.out.sy.disk H.out.2.1.dead H.out.2.1.few (by have := H.out.2.2.2.1; omega) (by have := HC.out.1.l8; omega) HC.out.1.few).mono ?_
  intro e w4 hx
  unfold OpenRes at hx
  rw [HC.out.2.1] at hx
  obtain ⟨_, rfl, F4, h4, hK⟩ := hx.resolve_right fun h => absurd h.1 (by decide)
  obtain ⟨h4s, t4⟩ := H2.out.sy.redisk h4 hK
  have H4 := Lib.hid (H2.out.sys h4s t4)
  clear h4 hK hkc h4s t4
  go_wp2_with fail
  refine (mabort H4.out.mi H.out.2.2.1.kept).mono ?_
  rintro e w6 ⟨rfl, v6, h6, k6⟩
  have H6 := Lib.hid (H4.out.mind h6 k6)
  have HDD := Lib.hid (hasDied (x := .bool true) H6.out HC.out.2.2)
  clear h6 k6
  go_wp2_with fail
  refine HDD.out.mono ?_
  rintro e w7 ⟨rfl, rfl⟩
  go_wp2_with fail
  go_ret3
  exact ⟨_, _, _, _, _, _, _, _, rfl, H6.out, rfl, rfl⟩
end
end Go.Proofs.YteoeaojebklfjaaGreatDoor
namespace Go.Proofs.YteoeaojebklfjaaGreatDoor
open Go.RowKit Go.Maps
set_option linter.unusedVariables false
set_option linter.unusedSimpArgs false
theorem pair_eq {x : Int × Sy} {c : Int} {p : Pg} {r : Rg} (h1 : x.1 = c) (h2 : x.2.p = p) (h3 : x.2.r = r) : x = (c, ⟨p, r, x.2.d⟩) := by
  obtain ⟨a, b, c', d⟩ := x
  subst h1; subst h2; subst h3
  rfl
theorem Tw.lv' {N : Nat} {d e : Dk} (t : Tw N d e) {len : Nat} {p : Pg} {G K : List Nat} (h : Lv len p d G K) : Lv len p e G K :=
  ⟨h.l64, h.l400, h.first, h.pages, by rw [← t.lasts]; exact h.dlen, ⟨by rw [← t.lasts]; exact h.dok.lasts, by rw [← t.waits, ← t.lasts]; exact h.dok.waits, by rw [← t.lasts]; exact h.dok.many⟩, h.dirty, h.dr, h.now, h.nr, h.count, h.idle, h.mu, h.mr, by rw [← t.view]; exact h.fr, h.ku, h.kr, by rw [← t.comm]; exact h.km, by rw [← t.comm]; exact h.fk⟩
section
variable {w0 : Fr} {w w' : World} {L L' : Lo} {R R' : Nat} {F F' : Nat → Prop} {s s' : Sy} {M : Nat} {v v' : Mv} {m m' : Mi} {len n T N base : Nat} {G K : List Nat} {rs : List Rec}
theorem Tn.ro {e : Dk} (t : Tn N s e m len n T G K) : Ro s := by
  obtain ⟨base, rs, g, _⟩ := t.lg
  have r := Lg.ro (s := ⟨s.p, s.r, e⟩) g t.lv
  have hl : s.d.lasts = e.lasts := t.tw.lasts
  exact ⟨r.rok, by rw [hl]; exact r.fit, by rw [hl]; exact r.l8, r.now, r.top, by rw [hl]; exact r.few⟩
def Dies (w0 : Fr) (D : Nat) (m : Mi) (len T : Nat) (kind : Int) (e : Ending) (w' : World) : Prop := ∃ d', DieOut w0 D d' e w' ∧ d'.dead = true ∧ d'.waits = [] ∧ (LiesM len d'.lasts T m ∨ (kind = 4 ∧ LiesM len d'.lasts T m.commit))
theorem do_tw (h : Bo w0 w L R F s M v m) (p : PlQ N s m len n T) (hn : n ≤ 300000) (hT : T ≤ 999999000) (st : Stp) : Calls Tryz.prog 24 #[.pointer (some ⟨L.D, 0, none⟩), .pointer (some ⟨L.P, 0, none⟩), .pointer (some ⟨M, 0, none⟩), st.v] w fun e w' => (∃ s' m', DoOut w0 L.D M s' m' true false e w' ∧ PlQ (N - 600) s' m' len (n + 600) (T + 100)) ∨ (N < 600 ∧ Dies w0 L.D m len (T + 100) st.kind e w') := by
  obtain ⟨e, G, K, t⟩ := p
  have lr := t.tw.lv t.lv
  have l := t.lv
  have li : Li s len n G K := ⟨lr, t.tw.dead, t.tw.few t.calm.few⟩
  have f := t.fit
  have fe := t.tw.fit.1 f
  have lm := f.lim lr
  have sm := f.same
  have ro := t.ro
  obtain ⟨base, rs, g, hTb⟩ := t.lg
  have upc : e.Calm len (n + 600) := ⟨t.calm.dead, t.calm.set, t.calm.len, t.calm.few.mono (by omega)⟩
  have pl : ∀ {p' : Pg} {G' K' : List Nat} {m' : Mi}, Lv len p' s.d G' K' → p'.pages = s.p.pages → p'.dirty = s.p.dirty → FitP ⟨p', s.r, s.d⟩ K' m' → PlQ (N - 600) ⟨p', s.r, s.d⟩ m' len (n + 600) (T + 100) := fun {p' G' K' m'} a b c d => ⟨e, _, _, t.tw.less (by omega), t.tw.lv' a, ⟨base, rs, Lg.pages (s := ⟨s.p, s.r, e⟩) g b c, by omega⟩, upc, t.wt, d⟩
  have same : PlQ (N - 600) s m len (n + 600) (T + 100) := ⟨e, G, K, t.tw.less (by omega), l, ⟨base, rs, g, by omega⟩, upc, t.wt, f⟩
  by_cases k0 : st.kind = 0
  · by_cases hf : s.p.free = 0
    · exact (do0_full h li (by omega) lm st k0 hf (by have := f.now.cnt; unfold Mi.free; omega)).mono fun e w' a => .inl ⟨s, m, a, same⟩
    · refine (do0_take h li (by omega) lm sm st k0 hf (by have := f.now.cnt; unfold Mi.free; omega) f.pages).mono ?_
      rintro e w' ⟨k, p', G', t, a⟩
      exact .inl ⟨_, _, a, pl t.lv t.pages t.dirty (f.took lr t)⟩
  by_cases k1 : st.kind = 1
  · refine (do1 h li (by omega) lm sm st k1).mono ?_
    rintro e w' (⟨k, i, p, hu, hi, hp, a⟩ | a)
    · exact .inl ⟨_, _, a, pl (lr.write hu (fullB_len _)).1 rfl rfl (f.wrote lr hu hi hp (fullB_len _))⟩
    · exact .inl ⟨s, m, a, same⟩
  by_cases k2 : st.kind = 2
  · refine (do2 h li (by omega) lm sm st k2).mono ?_
    rintro e w' (⟨k, hu, a⟩ | a)
    · exact .inl ⟨_, _, a, pl (lr.drop hu).1 rfl rfl (f.dropped lr hu)⟩
    · exact .inl ⟨s, m, a, same⟩
  by_cases k3 : st.kind = 3
  · refine (do3 h li (by omega) lm sm st k3).mono ?_
    rintro e w' (⟨k, hu, a⟩ | a)
    · exact .inl ⟨_, _, a, pl (lr.setRoot hu) rfl rfl (f.rooted k)⟩
    · exact .inl ⟨s, m, a, same⟩
  by_cases k4 : st.kind = 4
  · by_cases c1 : s.d.lasts.length / 8 < s.p.count.length
    · have e : s.commit = (3, s) := by unfold Sy.commit; rw [if_pos c1]
      exact (do4_full h li (by omega) lm sm st k4 ro e (by rw [f.chl]; exact c1)).mono fun e w' a => .inl ⟨s, m, a, same⟩
    · by_cases c2 : s.p.m.root ≠ 0 ∧ s.p.uses (s.p.m.root : Int) = false
      · have e : s.commit = (1, s) := by unfold Sy.commit; rw [if_neg c1, if_pos c2]
        have hr := f.now.root
        refine (do4_root h li (by omega) lm sm st k4 ro e (by rw [f.chl]; exact c1) (by omega) ?_).mono fun e w' a => .inl ⟨s, m, a, same⟩
        rcases sm m.root with ⟨a, _⟩ | ⟨_, a⟩
        · rw [← hr, c2.2] at a; cases a
        · exact a
      · have hroot : s.p.m.root = 0 ∨ s.p.uses (s.p.m.root : Int) = true := by
          by_cases e : s.p.m.root = 0
          · exact .inl e
          · cases hx : s.p.uses (s.p.m.root : Int) with
            | true => exact .inr rfl
            | false => exact absurd ⟨e, hx⟩ c2
        have hr := f.now.root
        have hmr : m.root = 0 ∨ 0 ≤ findP m.now m.root := by
          rcases hroot with e | e
          · exact .inl (by omega)
          · rcases sm m.root with ⟨_, a⟩ | ⟨a, _⟩
            · exact .inr a
            · rw [← hr, e] at a; cases a
        obtain ⟨s', b', rs', ec, r1, r2, r3, r4, r4w, r5, r6, r7, r8, r9, r10, rr⟩ := commit_tw t.tw l g t.calm t.wt (by rw [← lr.dlen]; omega) hroot (by omega)
        have hfc := FitP.committed fe l r1 r5 r6 r9 r10 r8
        rcases rr with ⟨a1, a2, a3, a4⟩ | ⟨a0, a1, a2, a3, a4⟩
        · have he := pair_eq a1 a2 a3
          refine (do4_ok h li (by omega) lm sm st k4 ro he (by rw [f.chl]; exact c1) hmr (by show _ = s.commit.2.d.lasts.length; rw [a4.lasts, lr.dlen, r1.dlen])).mono fun e w' a => .inl ⟨_, _, a, ⟨s'.d, G, G, a4, r1, ⟨b', rs', r2, by omega⟩, r4, r4w, ?_⟩⟩
          exact (Tw.fit (s := ⟨s'.p, s'.r, s.commit.2.d⟩) a4).2 hfc
        · have he : s.commit = (20, s.commit.2) := by rw [← a1]
          have hlen : s.commit.2.d.lasts.length = len := by
            rcases a4 with ⟨_, _, _, o, _⟩ | ⟨_, _, _, o, _⟩ <;> exact o.ln
          refine (do4_die h li (by omega) lm sm st k4 ro ⟨he, a2⟩ (by rw [f.chl]; exact c1) hmr (by rw [hlen]; exact lr.dlen)).mono fun e w' a => .inr ⟨a0, _, a, a2, a3, ?_⟩
          rcases a4 with a4 | a4
          · exact .inl ((fe.lies (s := ⟨s.p, s.r, _⟩) l a4).upto (by omega))
          · exact .inr ⟨k4, (hfc.lies r1 a4).upto (by omega)⟩
  by_cases k5 : st.kind = 5
  · obtain ⟨a1, a2, a3, a4, a5, a6, a7, a8, a9, a10⟩ := lr.cm.abort
    refine (do5 h li (by omega) lm sm st k5 (by have := lr.first; have := lr.pages; have := lr.dlen; have := lr.l64; omega)).mono fun e' w' a => .inl ⟨_, _, a, ⟨e, K, K, t.tw.less (by omega), t.tw.lv' a1, ⟨base, rs, ⟨g.ring, g.holds, g.room, g.head, ?_, g.base⟩, by omega⟩, upc, t.wt, f.aborted lr a1 a2 a3 a4 a5 a8⟩⟩
    show replayAll (((s.p.abort s.d).pages : Int) - 1) rs [] = some (s.p.abort s.d).dirty
    rw [a10, a6]
    exact g.rep
  by_cases k6 : st.kind = 6
  · obtain ⟨s', es, p', l', g', c', w', cm, vw, rr⟩ := settle_tw t.tw l g t.calm t.wt
    have hfs := FitP.settled fe l l' p' vw cm
    rcases rr with ⟨a1, a2, a3, a4⟩ | ⟨a0, a1, a2, a3, a4⟩
    · have he := pair_eq a1 a2 a3
      refine (do6_ok h li (by omega) lm sm st k6 ro he).mono fun e w'' a => .inl ⟨_, m, a, ⟨s'.d, G, K, a4.less (by omega), l', ⟨_, _, g', by rw [many_nil]; omega⟩, ⟨c'.dead, c'.set, c'.len, c'.few.mono (by omega)⟩, w', ?_⟩⟩
      exact (Tw.fit (s := ⟨s'.p, s'.r, (s.settle s.r.top).2.d⟩) a4).2 hfs
    · have he : s.settle s.r.top = (20, (s.settle s.r.top).2) := by rw [← a1]
      exact (do6_die h li (by omega) lm sm st k6 ro he a2).mono fun e w'' a => .inr ⟨by omega, _, a, a2, a3, .inl ((fe.lies (s := ⟨s.p, s.r, _⟩) l a4).upto (by omega))⟩
  · have hk : ∀ q : Int, 0 ≤ q → q ≤ 6 → st.kind ≠ q := fun q q0 q6 e => by
      have : q = 0 ∨ q = 1 ∨ q = 2 ∨ q = 3 ∨ q = 4 ∨ q = 5 ∨ q = 6 := by omega
      rcases this with rfl | rfl | rfl | rfl | rfl | rfl | rfl <;> contradiction
    obtain ⟨o, hv, _⟩ := Lg.onD (s := ⟨s.p, s.r, e⟩) l.pd g t.wt
    obtain ⟨p, r, e', eo, lo, ⟨b, gb, hb⟩, co, wo, o1, o2, o3, o4, o5, o6, rr⟩ := open_tw (V := s.p.comm e) t.tw t.calm t.wt l.l64 l.l400 ⟨base, rs, _, o.upto (Nat.le_refl _), hv⟩ (by omega) l.cm.mt
    have hfo := FitP.aborted (s' := ⟨p, r, e'⟩) fe l lo o1 o2 o3 o4 o6
    rcases rr with ⟨d', ed, td⟩ | ⟨a0, a1, a2, a3, a4⟩
    · refine (do7_ok h li (by omega) lm sm st hk ro ed).mono fun e w'' a => .inl ⟨_, _, a, ⟨e', K, K, td.less (by omega), lo, ⟨b, [], gb, by rw [many_nil]; omega⟩, ⟨co.dead, co.set, co.len, co.few.mono (by omega)⟩, wo, ?_⟩⟩
      exact (Tw.fit (s := ⟨p, r, d'⟩) td).2 hfo
    · exact (do7_die h li (by omega) lm sm st hk ro a1 a2).mono fun e w'' a => .inr ⟨by omega, _, a, a2, a3, .inl ((fe.lies (s := ⟨s.p, s.r, _⟩) l a4).upto (by omega))⟩
end
end Go.Proofs.YteoeaojebklfjaaGreatDoor
namespace Go.Proofs.YteoeaojebklfjaaGreatDoor
open Go.RowKit Go.Maps
set_option linter.unusedVariables false
set_option linter.unusedSimpArgs false
def nf (w : World) : Fr := ⟨w, fun _ => False⟩
structure Okm (len : Nat) (m : Mi) : Prop where
  now : m.now.length ≤ 1000000
  kept : m.kept.length ≤ 1000000
  ch : m.ch.length ≤ 1000000
  pg : m.pages = ((len - 1 - len / 4 : Nat) : Int)
  nd : (m.kept.map fun p => p.n).Nodup
theorem Okm.abort {len : Nat} {m : Mi} (h : Okm len m) : Okm len m.abort := ⟨h.kept, h.kept, Nat.zero_le _, h.pg, h.nd⟩
section
variable {w0 : Fr} {w w' w1 w2 W : World} {L L' : Lo} {R R' : Nat} {F F' : Nat → Prop} {s s' : Sy} {M M' Mm Mu : Nat} {v v' vm vu : Mv} {m m' x u : Mi} {len n T N D P : Nat} {G K : List Nat} {d d' e : Dk}
theorem Bo.look (h : Bo w0 w L R F s M v m) : Bo ⟨w, fun k => allS L R F k ∨ mS M v k⟩ w L R F s M v m :=
  ⟨h.sy, h.mi, h.ap, fun k hk => .inr (.inl hk), fun k hk => .inr (.inr hk), Only.refl _ _⟩
theorem Bo.back (h : Bo w0 w L R F s M v m) (k : Bo ⟨w, fun k => allS L R F k ∨ mS M v k⟩ w' L' R' F' s' M' v' m') : Bo w0 w' L' R' F' s' M' v' m' := by
  have hs := h.only.size
  have hz : ∀ i, (allS L R F i ∨ mS M v i) → w0.w.heap.size ≤ i ∨ w0.z i := fun i e => e.elim (h.ns i) (h.nm i)
  have hn : ∀ i, (w.heap.size ≤ i ∨ (allS L R F i ∨ mS M v i)) → w0.w.heap.size ≤ i ∨ w0.z i := fun i e => e.elim (fun e => .inl (by omega)) (hz i)
  exact ⟨k.sy, k.mi, k.ap, fun i hi => hn i (k.ns i hi), fun i hi => hn i (k.nm i hi), h.only.trans2 k.only fun i hi e => (hz i e).elim (fun h2 => absurd hi (by omega)) id⟩
theorem Bo.dsk (h : Bo (nf W) w L R F s M v m) : Dsk W w L.D F s.d := ⟨h.sy.disk, fun k hk => (h.ns k (.inr (.inr hk))).resolve_right fun e => e.elim, h.only⟩
theorem Bo.mnew (h : Bo (nf W) w L R F s M v m) {k : Nat} (hk : mS M v k) : W.heap.size ≤ k := (h.nm k hk).resolve_right fun e => e.elim
theorem PlQ.okm (p : PlQ N s m len n T) : Okm len m ∧ Okm len m.commit := by
  obtain ⟨e, G, K, t⟩ := p
  have lr := t.tw.lv t.lv
  have lm := t.fit.lim lr
  have hp : m.pages = ((len - 1 - len / 4 : Nat) : Int) := by rw [t.fit.pages, lr.pages]
  exact ⟨⟨lm.now, lm.kept, lm.ch, hp, t.fit.kept.nd⟩, ⟨lm.now, lm.now, Nat.zero_le _, hp, t.fit.now.nd⟩⟩
theorem PlQ.wt (p : PlQ N s m len n T) : s.d.waits = [] ∧ s.d.dead = false ∧ s.d.Few n ∧ LiesM len s.d.lasts T m := by
  obtain ⟨e, G, K, t⟩ := p
  exact ⟨by rw [t.tw.waits]; exact t.wt, t.tw.dead, t.tw.few t.calm.few, by rw [t.tw.lasts]; exact t.lies⟩
def Ds (W w : World) (D len T Mm Mu : Nat) (d : Dk) : Prop := ∃ F vm vu m u, Dsk W w D F d ∧ d.waits = [] ∧ MindAt w Mm vm m ∧ MindAt w Mu vu u ∧ (∀ k, mS Mm vm k → W.heap.size ≤ k ∧ ¬ F k ∧ ¬ mS Mu vu k) ∧ (∀ k, mS Mu vu k → W.heap.size ≤ k ∧ ¬ F k) ∧ Okm len m ∧ Okm len u ∧ (LiesM len d.lasts T m ∨ LiesM len d.lasts T u)
theorem Ds.new (h : Ds W w D len T Mm Mu d) (o : Only None' w w') : Ds W w' D len T Mm Mu d := by
  obtain ⟨F, vm, vu, m, u, h1, h2, h3, h4, h5⟩ := h
  exact ⟨F, vm, vu, m, u, h1.new o, h2, h3.new o, h4.new o, h5⟩
theorem Ds.only (h : Ds W w D len T Mm Mu d) : Only None' W w := by
  obtain ⟨F, vm, vu, m, u, h1, _⟩ := h
  exact h1.only
theorem Bo.died (h : Bo (nf W) w1 L R F s M v m) (hm : MindAt w1 M' v' x) (hd : ∀ k, mS M' v' k → ¬ allS L R F k ∧ ¬ mS M v k) {e : Ending} (o : DieOut ⟨w1, fun k => allS L R F k ∨ mS M v k⟩ D d' e w2) :
    ∃ (y : Value) (F' : Nat → Prop), e = .returned (.tuple #[y, .bool false, .bool true]) ∧ Dsk W w2 D F' d' ∧ MindAt w2 M' v' x ∧ ∀ k, mS M' v' k → ¬ F' k := by
  obtain ⟨y, L2, R2, F2, s2, M2, v2, m2, he, hb, hD, hd2⟩ := o
  have hb' := h.back hb
  refine ⟨y, F2, he, ?_, hm.only hb.only fun k hk e => e.elim (hd k hk).1 (hd k hk).2, fun k hk e => ?_⟩
  · have := hb'.dsk
    rw [hD, hd2] at this
    exact this
  · rcases hb.ns k (.inr (.inr e)) with h2 | h2
    · have := hm.lt hk
      have : w1.heap.size ≤ k := h2
      omega
    · exact h2.elim (hd k hk).1 (hd k hk).2
theorem Ds.died (hd : Dsk W w D F d) (hw : d.waits = []) (h1 : MindAt w Mm vm m) (h2 : MindAt w Mu vu u) (n1 : ∀ k, mS Mm vm k → W.heap.size ≤ k ∧ ¬ F k ∧ ¬ mS Mu vu k) (n2 : ∀ k, mS Mu vu k → W.heap.size ≤ k ∧ ¬ F k) (o1 : Okm len m) (o2 : Okm len u) (hl : LiesM len d.lasts T m ∨ LiesM len d.lasts T u) : Ds W w D len T Mm Mu d := ⟨F, vm, vu, m, u, hd, hw, h1, h2, n1, n2, o1, o2, hl⟩
theorem end_crash (h : Bo (nf W) w L R F s Mm vm m) (p : PlQ N s m len n T) (hn : n ≤ 900000) (hu : MindAt w Mu vu m) (hun : ∀ k, mS Mu vu k → W.heap.size ≤ k ∧ ¬ allS L R F k ∧ ¬ mS Mm vm k) {kv : Value} {keep : List Bool} (hr : Rd w 1 kv keep.length (bo keep)) (hold : bo keep ≠ [] → ∀ g, kv.ownBlock = some g → g < W.heap.size) :
    Calls Tryz.prog 33 #[.pointer (some ⟨L.D, 0, none⟩), kv] w fun e w' => e = .returned (.int .i64 0) ∧ ∃ d, d.dead = true ∧ Ds W w' L.D len T Mm Mu d := by
  obtain ⟨hw, hdd, hf, hl⟩ := p.wt
  refine (h.dsk.crash hf (by omega) hdd hr (fun hk g hg e => by have := hold hk g hg; have := h.dsk.fresh g e; omega) rfl).mono ?_
  rintro e w' ⟨rfl, F', hd', k⟩
  have e1 : (s.d.crashed keep).lasts = s.d.lasts := by
    show settle _ 0 s.d.waits s.d.lasts = _
    rw [hw]; rfl
  refine ⟨rfl, s.d.crashed keep, rfl, F', vm, vu, m, m, hd', rfl, h.mi.only k.only fun i hi e => h.ap i hi (.inr (.inr e)), hu.only k.only fun i hi e => (hun i hi).2.1 (.inr (.inr e)), fun i hi => ⟨h.mnew hi, fun e => ?_, fun e => (hun i e).2.2 hi⟩, fun i hi => ⟨(hun i hi).1, fun e => ?_⟩, p.okm.1, p.okm.1, .inl (by rw [e1]; exact hl)⟩
  · rcases k.fresh i e with e2 | e2
    · exact h.ap i hi (.inr (.inr e2))
    · have := h.mi.lt hi; omega
  · rcases k.fresh i e with e2 | e2
    · exact (hun i hi).2.1 (.inr (.inr e2))
    · have := hu.lt hi; omega
theorem Ds.reopen (h : Ds W w D len T Mm Mu d) (hd : d.dead = true) : Calls Tryz.prog 34 #[.pointer (some ⟨D, 0, none⟩)] w fun e w' => ∃ D', e = .returned (.tuple #[.pointer (some ⟨D', 0, none⟩), .int .i64 0]) ∧ Ds W w' D' len T Mm Mu d.reopened := by
  obtain ⟨F, vm, vu, m, u, h1, h2, h3, h4, h5, h6, h7, h8, h9⟩ := h
  refine (h1.reopen hd rfl).mono ?_
  rintro e w' ⟨D', F', rfl, g1, _, g2, o⟩
  exact ⟨D', rfl, F', vm, vu, m, u, g1, rfl, h3.new o, h4.new o, fun k hk => ⟨(h5 k hk).1, fun e => by have := g2 k e; have := h3.lt hk; omega, (h5 k hk).2.2⟩, fun k hk => ⟨(h6 k hk).1, fun e => by have := g2 k e; have := h4.lt hk; omega⟩, h7, h8, h9⟩
theorem Ds.fuse (h : Ds W w D len T Mm Mu d) (hd : d.dead = false) {k : Nat} {i : Int} (hi : (k : Int) = i) {kv : Value} {keep : List Bool} (hr : Rd w 1 kv keep.length (bo keep)) (hkl : keep.length ≤ 140737488351232) : Calls Tryz.prog 31 #[.pointer (some ⟨D, 0, none⟩), .int .i64 i, kv] w fun e w' => e = .returned (.int .i64 0) ∧ Ds W w' D len T Mm Mu (d.fused k keep) := by
  obtain ⟨F, vm, vu, m, u, h1, h2, h3, h4, h5, h6, h7, h8, h9⟩ := h
  refine (h1.setFuse hd hi hr hkl rfl).mono ?_
  rintro e w' ⟨rfl, F', g1, kp⟩
  refine ⟨rfl, F', vm, vu, m, u, g1, h2, h3.only kp.only fun j hj e => (h5 j hj).2.1 e, h4.only kp.only fun j hj e => (h6 j hj).2 e, fun j hj => ⟨(h5 j hj).1, fun e => ?_, (h5 j hj).2.2⟩, fun j hj => ⟨(h6 j hj).1, fun e => ?_⟩, h7, h8, h9⟩
  · rcases kp.fresh j e with e2 | e2
    · exact (h5 j hj).2.1 e2
    · have := h3.lt hj; omega
  · rcases kp.fresh j e with e2 | e2
    · exact (h6 j hj).2 e2
    · have := h4.lt hj; omega
def Up (W w : World) (D P len n T N Mm Mu : Nat) (bm bu : Bool) : Prop := ∃ L R F s vm vu m u, L.P = P ∧ L.D = D ∧ Bo (nf W) w L R F s Mm vm m ∧ Bo (nf W) w L R F s Mu vu u ∧ (∀ k, mS Mm vm k → ¬ mS Mu vu k) ∧ Okm len m ∧ Okm len u ∧ (bm = true → m.abort = m) ∧ (bu = true → u.abort = u) ∧
  ∃ e K, Tw N s.d e ∧ Lv len s.p e K K ∧ (∃ b, Lg len ⟨s.p, s.r, e⟩ b [] ∧ b ≤ T) ∧ e.Calm len n ∧ e.waits = [] ∧ s.p.kept = s.p.m ∧ s.p.comm e = s.p.view e ∧ (FitP s K m.abort ∨ FitP s K u.abort)
theorem Ds.open_ (h : Ds W w D len T Mm Mu d) (t : Tw N d e) (hc : e.Calm len n) (hn : n ≤ 600000) (h64 : 64 ≤ len) (h400 : len ≤ 400) (hT : T ≤ 1000000000) : Calls Tryz.prog 17 #[.pointer (some ⟨D, 0, none⟩)] w fun r w' =>
    (∃ P, r = .returned (.tuple #[.pointer (some ⟨P, 0, none⟩), .int .i64 0]) ∧ Up W w' D P len (n + 403) T (N - 403) Mm Mu false false) ∨
    (N < 403 ∧ r = .returned (.tuple #[.pointer none, .int .i64 20]) ∧ ∃ d', d'.dead = true ∧ Ds W w' D len T Mm Mu d') := by
  obtain ⟨F, vm, vu, m, u, h1, h2, h3, h4, h5, h6, h7, h8, h9⟩ := h
  have hew : e.waits = [] := by rw [← t.waits]; exact h2
  have key : ∃ V mt K, HasV len d.lasts V T ∧ Mt len V mt K ∧ ((HalfP (usesU mt.used K) (((len - 1 - len / 4 : Nat) : Int) - (mt.used : Int) + (K.length : Int)) (mt.root : Int) V m.kept m.pages m.kroot) ∨ (HalfP (usesU mt.used K) (((len - 1 - len / 4 : Nat) : Int) - (mt.used : Int) + (K.length : Int)) (mt.root : Int) V u.kept u.pages u.kroot)) := by
    rcases h9 with ⟨V, mt, K, a, b, _, c⟩ | ⟨V, mt, K, a, b, _, c⟩
    · exact ⟨V, mt, K, a, b, .inl c⟩
    · exact ⟨V, mt, K, a, b, .inr c⟩
  obtain ⟨V, mt, K, hv, hmt, hh⟩ := key
  have hlen : d.lasts.length = len := by rw [t.lasts]; exact hc.len
  refine (Open_any h1.at_ t.dead (t.few hc.few) (by omega) (by omega) (by omega)).mono ?_
  intro r w' hx
  unfold OpenRes at hx
  obtain ⟨p, rg, e', eo, lo, ⟨b, gb, hb⟩, co, wo, o1, o2, o3, o4, o5, o6, rr⟩ := open_tw t hc hew h64 h400 (by rw [← t.lasts]; exact hv) hT hmt
  have far : ∀ {F4 : Nat → Prop} {vx : Mv} {Mx : Nat} {x : Mi}, Kept F F4 w w' → MindAt w Mx vx x → (∀ k, mS Mx vx k → ¬ F k) → ∀ k, mS Mx vx k → ¬ F4 k := fun kp hm hn k hk e => by
    rcases kp.fresh k e with e2 | e2
    · exact hn k hk e2
    · have := hm.lt hk; omega
  rcases rr with ⟨d', ed, td⟩ | ⟨a0, a1, a2, a3, a4⟩
  · rw [ed] at hx
    rcases hx with ⟨q, _⟩ | ⟨_, L4, R4, F4, rfl, q4, qD, qL, qR, qK⟩
    · exact absurd rfl q
    refine .inl ⟨L4.P, rfl, L4, R4, F4, ⟨p, rg, d'⟩, vm, vu, m, u, rfl, qD, ?_, ?_, fun k hk => (h5 k hk).2.2, h7, h8, (fun e => by cases e), (fun e => by cases e), e', K, td, lo, ⟨b, gb, hb⟩, co, wo, o2.trans o1.symm, o3.trans o4.symm, ?_⟩
    · have hd := h1.step (by have := q4.disk; rw [qD] at this; exact this) qK
      refine ⟨q4, h3.only qK.only fun k hk e => (h5 k hk).2.1 e, fun k hk e => ?_, fun k hk => .inl ?_, fun k hk => .inl (h5 k hk).1, hd.only⟩
      · have := h3.lt hk
        rcases e with e | rfl | e
        · have := qL k e; omega
        · omega
        · exact far qK h3 (fun k hk => (h5 k hk).2.1) k hk e
      · have := h1.only.size
        show W.heap.size ≤ k
        rcases hk with e | rfl | e
        · have := qL k e; omega
        · omega
        · exact hd.fresh k e
    · have hd := h1.step (by have := q4.disk; rw [qD] at this; exact this) qK
      refine ⟨q4, h4.only qK.only fun k hk e => (h6 k hk).2 e, fun k hk e => ?_, fun k hk => .inl ?_, fun k hk => .inl (h6 k hk).1, hd.only⟩
      · have := h4.lt hk
        rcases e with e | rfl | e
        · have := qL k e; omega
        · omega
        · exact far qK h4 (fun k hk => (h6 k hk).2) k hk e
      · have := h1.only.size
        show W.heap.size ≤ k
        rcases hk with e | rfl | e
        · have := qL k e; omega
        · omega
        · exact hd.fresh k e
    · rcases hh with hh | hh
      · exact .inl ((Tw.fit (s := ⟨p, rg, d'⟩) td).2 (LiesM.fits (T := T) h7.pg hh lo o1 o2 o3 o4 o6))
      · exact .inr ((Tw.fit (s := ⟨p, rg, d'⟩) td).2 (LiesM.fits (T := T) h8.pg hh lo o1 o2 o3 o4 o6))
  · rcases hx with ⟨_, rfl, F4, q4, qK⟩ | ⟨q, _⟩
    · rw [a1]
      refine .inr ⟨a0, rfl, _, a2, F4, vm, vu, m, u, h1.step q4 qK, a3, h3.only qK.only fun k hk e => (h5 k hk).2.1 e, h4.only qK.only fun k hk e => (h6 k hk).2 e, fun k hk => ⟨(h5 k hk).1, far qK h3 (fun k hk => (h5 k hk).2.1) k hk, (h5 k hk).2.2⟩, fun k hk => ⟨(h6 k hk).1, far qK h4 (fun k hk => (h6 k hk).2) k hk⟩, h7, h8, ?_⟩
      rcases hh with hh | hh
      · exact .inl ⟨V, mt, K, a4, hmt, h7.pg, hh⟩
      · exact .inr ⟨V, mt, K, a4, hmt, h8.pg, hh⟩
    · rw [a1] at q; exact absurd q (by decide)
end
end Go.Proofs.YteoeaojebklfjaaGreatDoor
