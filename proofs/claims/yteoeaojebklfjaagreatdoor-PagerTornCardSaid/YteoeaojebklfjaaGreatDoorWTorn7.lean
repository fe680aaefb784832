/- X6 Y2 in one text. -/
import Derived.Test.YteoeaojebklfjaaGreatDoorWTorn6
namespace Go.Proofs.YteoeaojebklfjaaGreatDoor
open Go.RowKit Go.Maps
set_option linter.unusedVariables false
set_option linter.unusedSimpArgs false
set_option maxRecDepth 20000
def DieOut (w0 : Fr) (D : Nat) (d' : Dk) (e : Ending) (w' : World) : Prop :=
  ∃ (x : Value) (L : Lo) (R : Nat) (F : Nat → Prop) (s : Sy) (M : Nat) (v : Mv) (m : Mi), e = .returned (.tuple #[x, .bool false, .bool true]) ∧ Bo w0 w' L R F s M v m ∧ L.D = D ∧ s.d = d'
section
variable {w0 : Fr} {w w' : World} {L L' : Lo} {R R' : Nat} {F F' : Nat → Prop} {s s' : Sy} {M : Nat} {v v' : Mv} {m m' : Mi} {len n : Nat} {G K : List Nat}
theorem SyAt.redisk (h : SyAt w L R F s) {d' : Dk} (hd : DiskAt w' L.D F' d') (k : Kept F F' w w') : SyAt w' L R F' ⟨s.p, s.r, d'⟩ ∧ To w w' L R F L R F' := by
  refine ⟨⟨h.pg.only k.only fun i hi e => h.ap i hi e, h.ring.kept k.only fun e => h.rf e, hd, fun i hi e => ?_, h.rp, fun e => ?_⟩, ⟨rfl, rfl, k.only.mono fun i _ hi => .inr (.inr hi), fun i hi => .inl hi, k.fresh⟩⟩
  · rcases k.fresh i e with e2 | e2
    · exact h.ap i hi e2
    · have := h.pg.lt hi; omega
  · rcases k.fresh R e with e2 | e2
    · exact h.rf e2
    · have := h.ring.lt; omega
theorem hasDied {x : Value} (h : Bo w0 w L R F s M v m) (hd : s.d.dead = true) : Calls Tryz.prog 32 #[.pointer (some ⟨L.D, 0, none⟩)] w fun e w' => e = .returned (.bool true) ∧ w = w' :=
  (dead_any h.sy.disk).mono fun e w' ⟨a, b⟩ => ⟨by rw [a, hd], b.symm⟩
set_option maxHeartbeats 2000000 in
theorem do4_die (h : Bo w0 w L R F s M v m) (l : Li s len n G K) (hn : n ≤ 400000) (lm : Lim s m) (hsm : Same s m) (st : Stp) (hk : st.kind = 4)(ro : Ro s) (hc : s.commit = (20, s') ∧ s'.d.dead = true) (hch : ¬ s.d.lasts.length / 8 < m.ch.length) (hr : m.root = 0 ∨ 0 ≤ findP m.now m.root) (hl' : s.d.lasts.length = s'.d.lasts.length) : Calls Tryz.prog 24 #[.pointer (some ⟨L.D, 0, none⟩), .pointer (some ⟨L.P, 0, none⟩), .pointer (some ⟨M, 0, none⟩), st.v] w (DieOut w0 L.D s'.d) := by
  obtain ⟨kind, at_, what, odd⟩ := st
  simp only at hk ⊢
  subst hk
  have HP := Lib.hid fun w' (o : Only None' w w') => page_any (h.new o).mi ⟨4, at_, what, odd⟩ lm.now
  unfold Stp.v at HP ⊢
  obtain ⟨cv, hcv⟩ : ∃ cv, cv = (what.toNat : Int) := ⟨_, rfl⟩
  simp only [← hcv] at HP ⊢
  have HCV := Lib.hid hcv
  have H := Lib.hid (And.intro h (And.intro l (And.intro lm (And.intro hn hsm))))
  clear h l lm hn hsm hcv
  have HC := Lib.hid (And.intro ro (And.intro hc (And.intro hch (And.intro hr hl'))))
  clear ro hc hch hr hl'
  go_enter Tryz.func24, Tryz.ntmps24
  go_wp2_with fail
  refine (HP.out _ ((Only.refl None' w).alloc _)).mono ?_
  rintro e w2 ⟨nn, rfl, o2⟩
  have H2 := Lib.hid (H.out.1.new (((Only.refl None' w).alloc _).trans o2))
  have HKC : Hid (w2.cell? ⟨w.heap.size, 0, none⟩ = some (.int .i64 4)) := Lib.hid (by rw [o2.cell (by simp) fun e => e, World.cell?_alloc_new]; rfl)
  clear o2
  go_wp2_with fail
  refine (mfind H2.out.mi nn H.out.2.2.1.now).mono ?_
  rintro e w3 ⟨rfl, rfl⟩
  have hkc := HKC.out
  go_wp2_with fail
  refine (commit_any H2.out.sy H.out.2.1.lv.ok HC.out.1.rok H.out.2.1.dead H.out.2.1.few (by have := H.out.2.2.2.1; omega) HC.out.1.l8 HC.out.1.fit HC.out.1.now).mono ?_
  rw [HC.out.2.1.1]
  rintro e w4 ⟨rfl, L4, R4, F4, h4, t4⟩
  have H4 := Lib.hid (And.intro (H2.out.sys h4 t4) (And.intro t4.P t4.D))
  obtain ⟨av, cv2, hvc, _, _⟩ := H4.out.1.mi.ch.shape
  obtain ⟨cl, hcl⟩ : ∃ cl, cl = m.ch.length := ⟨_, rfl⟩
  obtain ⟨ln, hln⟩ : ∃ ln, ln = s.d.lasts.length := ⟨_, rfl⟩
  obtain ⟨ql, hql⟩ : ∃ ql, ln / 8 = ql := ⟨_, rfl⟩
  have HQ := Lib.hid (And.intro hcl (And.intro hln (And.intro hql (show ln ≤ 1000 by have := HC.out.1.few; omega))))
  have HCC : Hid (∀ w', Only None' w4 w' → w'.cell? ⟨M, 5, none⟩ = some (.slice av cl cv2)) := Lib.hid fun w' o => by
    have := (H4.out.1.mi.new o).cells.is 5 _ rfl
    rw [hvc, ← hcl] at this
    exact this
  have HLN : Hid (∀ w', Only None' w4 w' → Calls Tryz.prog 41 #[.pointer (some ⟨L.D, 0, none⟩)] w' fun e w'' => e = .returned (.int .i64 (ln : Int)) ∧ Only None' w' w'') := Lib.hid fun w' o => by
    have := len_any (h4.disk.only o fun _ _ e => e)
    rw [t4.D] at this
    rw [hln, HC.out.2.2.2.2]
    exact this.mono fun e w2 h => ⟨h.1, by rw [h.2]; exact Only.refl _ _⟩
  have hbb : decide ((ql : Int) < (cl : Int)) = false := by have := HC.out.2.2.1; rw [← hln, ← hcl, hql] at this; simp; omega
  have HBB := Lib.hid hbb
  clear h4 t4 hkc hvc hcl hln hql hbb
  go_upto_region 42 with fail
  refine r_begin (S := None') (by kernel_rfl) ?_
  have HS := Lib.hid (Only.refl (None') w4)
  refine r_take 0 (.pointer (some ⟨M, 0, none⟩)) rfl (by kernel_rfl) (fun _ _ _ h => h) HS.out (YR.pure (by rfl) fun w hw => y_move w rfl rfl) ?_
  simp only [Act.put, zA, zB, zC]
  refine r_take 1 (.pointer (some ⟨M, 0, none⟩)) rfl (by kernel_rfl) (fun _ _ _ h => h) HS.out (YR.pure (by rfl) fun w hw => y_nil w rfl rfl) ?_
  simp only [Act.put, zA, zB, zC]
  refine r_take 2 (.pointer (some ⟨M, 5, none⟩)) rfl (by kernel_rfl) (fun _ _ _ h => h) HS.out (YR.pure (by rfl) fun w hw => y_f50_5 w rfl rfl) ?_
  simp only [Act.put, zA, zB, zC]
  refine r_take 3 (.slice av cl cv2) rfl (by kernel_rfl) (fun _ _ _ h => h) HS.out (YR.pure (by rfl) fun w hw => y_load28 rfl rfl (HCC.out w hw)) ?_
  simp only [Act.put, zA, zB, zC]
  refine r_take 4 (.int .i64 (cl : Int)) rfl (by kernel_rfl) (fun _ _ _ h => h) HS.out (YR.pure (by rfl) fun w hw => y_len28 rfl rfl) ?_
  simp only [Act.put, zA, zB, zC]
  refine r_take 5 (.pointer (some ⟨L.D, 0, none⟩)) rfl (by kernel_rfl) (fun _ _ _ h => h) HS.out (YR.pure (by rfl) fun w hw => y_move w rfl rfl) ?_
  simp only [Act.put, zA, zB, zC]
  refine r_take 6 (.int .i64 (ln : Int)) rfl (by kernel_rfl) (fun _ _ _ h => h) HS.out (YR.call (by rfl) (fun w => y_enter [.pointer (some ⟨L.D, 0, none⟩)] rfl (by rfl) (call41_ _) w) fun w hw => HLN.out w hw) ?_
  simp only [Act.put, zA, zB, zC]
  refine r_take 7 (.int .i64 (ql : Int)) rfl (by kernel_rfl) (fun _ _ _ h => h) HS.out (YR.pure (by rfl) fun w hw => y_quo3 w HQ.out.2.2.1 (by decide) (by have := HQ.out.2.2.2; omega) rfl rfl rfl) ?_
  simp only [Act.put, zA, zB, zC]
  refine r_take 8 (.bool false) rfl (by kernel_rfl) (fun _ _ _ h => h) HS.out (YR.pure (by rfl) fun w hw => y_gtr3 w HBB.out rfl rfl rfl) ?_
  simp only [Act.put, zA, zB, zC]
  refine r_done (by kernel_rfl) fun wz oz => ?_
  have H5 := Lib.hid (H4.out.1.new (HS.out.quiet oz))
  clear HS oz HCC HLN
  have hc3 := H5.out.mi.cells.is 3 _ rfl
  by_cases h0 : m.root = 0
  · have hr0 : (m.root != 0) = false := by simpa using h0
    clear h0
    have HDD := Lib.hid (hasDied (x := .bool true) H5.out HC.out.2.1.2)
    rw [H4.out.2.2] at HDD
    go_wp2_with fail
    refine HDD.out.mono ?_
    rintro e w7 ⟨rfl, rfl⟩
    go_wp2_with fail
    go_ret3
    exact ⟨_, _, _, _, _, _, _, _, rfl, H5.out, H4.out.2.2, rfl⟩
  · have hr0 : (m.root != 0) = true := by simpa using h0
    have hfr : ¬ findP m.now m.root < 0 := by have := HC.out.2.2.2.1.resolve_left h0; omega
    obtain ⟨fr, hfr2⟩ : ∃ fr, fr = findP m.now m.root := ⟨_, rfl⟩
    have HFD := Lib.hid (mfind H5.out.mi m.root H.out.2.2.1.now)
    rw [← hfr2] at HFD hfr
    have hfr0 : 0 ≤ fr := by omega
    clear h0 hfr2
    go_wp2_with fail
    refine HFD.out.mono ?_
    rintro e w5 ⟨rfl, rfl⟩
    have HDD := Lib.hid (hasDied (x := .bool true) H5.out HC.out.2.1.2)
    rw [H4.out.2.2] at HDD
    go_wp2_with fail
    refine HDD.out.mono ?_
    rintro e w7 ⟨rfl, rfl⟩
    go_wp2_with fail
    go_ret3
    exact ⟨_, _, _, _, _, _, _, _, rfl, H5.out, H4.out.2.2, rfl⟩
set_option maxHeartbeats 2000000 in
theorem do6_die (h : Bo w0 w L R F s M v m) (l : Li s len n G K) (hn : n ≤ 400000) (lm : Lim s m) (hsm : Same s m) (st : Stp) (hk : st.kind = 6)(ro : Ro s) (hc : s.settle s.r.top = (20, s')) (hd : s'.d.dead = true) : Calls Tryz.prog 24 #[.pointer (some ⟨L.D, 0, none⟩), .pointer (some ⟨L.P, 0, none⟩), .pointer (some ⟨M, 0, none⟩), st.v] w (DieOut w0 L.D s'.d) := by
  obtain ⟨kind, at_, what, odd⟩ := st
  simp only at hk ⊢
  subst hk
  have HP := Lib.hid fun w' (o : Only None' w w') => page_any (h.new o).mi ⟨6, at_, what, odd⟩ lm.now
  unfold Stp.v at HP ⊢
  obtain ⟨cv, hcv⟩ : ∃ cv, cv = (what.toNat : Int) := ⟨_, rfl⟩
  simp only [← hcv] at HP ⊢
  have HCV := Lib.hid hcv
  have H := Lib.hid (And.intro h (And.intro l (And.intro lm (And.intro hn hsm))))
  clear h l lm hn hsm hcv
  have HC := Lib.hid (And.intro ro (And.intro hc hd))
  clear ro hc hd
  go_enter Tryz.func24, Tryz.ntmps24
  go_wp2_with fail
  refine (HP.out _ ((Only.refl None' w).alloc _)).mono ?_
  rintro e w2 ⟨nn, rfl, o2⟩
  have H2 := Lib.hid (H.out.1.new (((Only.refl None' w).alloc _).trans o2))
  have HKC : Hid (w2.cell? ⟨w.heap.size, 0, none⟩ = some (.int .i64 6)) := Lib.hid (by rw [o2.cell (by simp) fun e => e, World.cell?_alloc_new]; rfl)
  clear o2
  go_wp2_with fail
  refine (mfind H2.out.mi nn H.out.2.2.1.now).mono ?_
  rintro e w3 ⟨rfl, rfl⟩
  have hkc := HKC.out
  go_wp2_with fail
  refine (Settle_any H2.out.sy H.out.2.1.lv.ok H.out.2.1.dead H.out.2.1.few (by have := H.out.2.2.2.1; omega) HC.out.1.l8 HC.out.1.top).mono ?_
  rw [HC.out.2.1]
  rintro e w4 ⟨rfl, L4, R4, F4, h4, t4⟩
  have H4 := Lib.hid (And.intro (H2.out.sys h4 t4) (And.intro t4.P t4.D))
  have HDD := Lib.hid (hasDied (x := .bool true) H4.out.1 HC.out.2.2)
  rw [H4.out.2.2] at HDD
  clear h4 t4 hkc
  go_wp2_with fail
  refine HDD.out.mono ?_
  rintro e w7 ⟨rfl, rfl⟩
  go_wp2_with fail
  go_ret3
  exact ⟨_, _, _, _, _, _, _, _, rfl, H4.out.1, H4.out.2.2, rfl⟩
set_option maxHeartbeats 2000000 in
theorem do7_die (h : Bo w0 w L R F s M v m) (l : Li s len n G K) (hn : n ≤ 400000) (lm : Lim s m) (hsm : Same s m) (st : Stp) (hk : ∀ q : Int, 0 ≤ q → q ≤ 6 → st.kind ≠ q)(ro : Ro s) (hc : (openS s.d).1 = 20) (hd : (openS s.d).2.d.dead = true) : Calls Tryz.prog 24 #[.pointer (some ⟨L.D, 0, none⟩), .pointer (some ⟨L.P, 0, none⟩), .pointer (some ⟨M, 0, none⟩), st.v] w (DieOut w0 L.D (openS s.d).2.d) := by
  obtain ⟨kind, at_, what, odd⟩ := st
  simp only at hk ⊢
  have hk0 : (kind == 0) = false := by have := hk 0 (by decide) (by decide); simpa using this
  have hk1 : (kind == 1) = false := by have := hk 1 (by decide) (by decide); simpa using this
  have hk2 : (kind == 2) = false := by have := hk 2 (by decide) (by decide); simpa using this
  have hk3 : (kind == 3) = false := by have := hk 3 (by decide) (by decide); simpa using this
  have hk4 : (kind == 4) = false := by have := hk 4 (by decide) (by decide); simpa using this
  have hk5 : (kind == 5) = false := by have := hk 5 (by decide) (by decide); simpa using this
  have hk6 : (kind == 6) = false := by have := hk 6 (by decide) (by decide); simpa using this
  clear hk
  have HP := Lib.hid fun w' (o : Only None' w w') => page_any (h.new o).mi ⟨kind, at_, what, odd⟩ lm.now
  unfold Stp.v at HP ⊢
  obtain ⟨cv, hcv⟩ : ∃ cv, cv = (what.toNat : Int) := ⟨_, rfl⟩
  simp only [← hcv] at HP ⊢
  have HCV := Lib.hid hcv
  have H := Lib.hid (And.intro h (And.intro l (And.intro lm (And.intro hn hsm))))
  clear h l lm hn hsm hcv
  have HC := Lib.hid (And.intro ro (And.intro hc hd))
  clear ro hc hd
  go_enter Tryz.func24, Tryz.ntmps24
  go_wp2_with fail
  refine (HP.out _ ((Only.refl None' w).alloc _)).mono ?_
  rintro e w2 ⟨nn, rfl, o2⟩
  have H2 := Lib.hid (H.out.1.new (((Only.refl None' w).alloc _).trans o2))
  have HKC : Hid (w2.cell? ⟨w.heap.size, 0, none⟩ = some (.int .i64 kind)) := Lib.hid (by rw [o2.cell (by simp) fun e => e, World.cell?_alloc_new]; rfl)
  clear o2
  go_wp2_with fail
  refine (mfind H2.out.mi nn H.out.2.2.1.now).mono ?_
  rintro e w3 ⟨rfl, rfl⟩
  have hkc := HKC.out
  go_wp2_with fail
  refine (Open_any H2.out.sy.disk H.out.2.1.dead H.out.2.1.few (by have := H.out.2.2.2.1; omega) (by have := HC.out.1.l8; omega) HC.out.1.few).mono ?_
  intro e w4 hx
  unfold OpenRes at hx
  rw [HC.out.2.1] at hx
  obtain ⟨_, rfl, F4, h4, hK⟩ := hx.resolve_right fun h => absurd h.1 (by decide)
  obtain ⟨h4s, t4⟩ := H2.out.sy.redisk h4 hK
  have H4 := Lib.hid (H2.out.sys h4s t4)
  clear h4 hK hkc h4s t4
  go_wp2_with fail
  refine (mabort H4.out.mi H.out.2.2.1.kept).mono ?_
  rintro e w6 ⟨rfl, v6, h6, k6⟩
  have H6 := Lib.hid (H4.out.mind h6 k6)
  have HDD := Lib.hid (hasDied (x := .bool true) H6.out HC.out.2.2)
  clear h6 k6
  go_wp2_with fail
  refine HDD.out.mono ?_
  rintro e w7 ⟨rfl, rfl⟩
  go_wp2_with fail
  go_ret3
  exact ⟨_, _, _, _, _, _, _, _, rfl, H6.out, rfl, rfl⟩
end
end Go.Proofs.YteoeaojebklfjaaGreatDoor
namespace Go.Proofs.YteoeaojebklfjaaGreatDoor
open Go.RowKit Go.Maps
set_option linter.unusedVariables false
set_option linter.unusedSimpArgs false
section
variable {w0 w w' wx : World} {L L' : Lo} {R R' : Nat} {F F' : Nat → Prop} {s s' : Sy} {len n T N D P : Nat} {G K : List Nat} {u : Value} {l : List Nat} {Q : (Nat → Sec) → Prop}
theorem Pw.rok (h : Pw w0 w L R F s len n T G K) : s.r.Ok ∧ s.r.first + s.r.count ≤ len ∧ s.r.top ≤ 4611686018427387904 := by
  obtain ⟨b, rs, g, hTb⟩ := h.lg
  have hl64 := h.lv.l64
  have hl4 := h.lv.l400
  have h1 := g.room
  have h2 := g.base
  rw [g.ring]
  exact ⟨⟨by show 1 ≤ len / 4; omega, by show 1 + len / 4 ≤ _; omega, by show b ≤ b + _; omega, by show b + _ ≤ b + _; omega, by show b + _ ≤ b + len / 4; omega, by show b + _ ≤ _; omega⟩, by show 1 + len / 4 ≤ len; omega, by show b + many b rs ≤ _; omega⟩
theorem tn_commit (h : Pw w0 w L R F s len n T G K) (hn : n ≤ 400000) (hT : T ≤ 999999000) (hcnt : s.p.count.length ≤ len / 8) (hroot : s.p.m.root = 0 ∨ s.p.uses (s.p.m.root : Int) = true) : ∃ s', s'.p.m = s.p.m ∧ s'.p.kept = s.p.m ∧ s'.d.waits = [] ∧ (∀ k, 1 ≤ k → s'.p.comm s'.d k = s.p.view s.d k) ∧ Calls Tryz.prog 13 #[.pointer (some ⟨L.P, 0, none⟩)] w fun e w' => e = .returned (.int .i64 0) ∧ ∃ L' R' F', Pw w0 w' L' R' F' s' len (n + 600) (T + 100) G G ∧ To w w' L R F L' R' F' := by
  obtain ⟨b, rs, g, hTb⟩ := h.lg
  have hl64 := h.lv.l64
  have hl4 := h.lv.l400
  obtain ⟨s', b', rs', e, r1, r2, r3, r4, rw', r5, r6, r7, r8, r9, r10⟩ := commit_calm h.lv g h.calm hcnt hroot (by omega)
  refine ⟨s', r5, r6, rw', r10, ?_⟩
  obtain ⟨k1, k2, k3⟩ := h.rok
  refine (commit_any h.at_ h.lv.ok k1 h.calm.dead h.calm.few (by omega) (by rw [h.lv.dlen]; omega) (by rw [h.lv.dlen]; exact k2) (by have := h.lv.nlen; have := h.lv.few; omega)).mono ?_
  rintro x w' ⟨h1, L', R', F', h2, t⟩
  rw [e] at h1 h2
  exact ⟨h1, L', R', F', h.step h2 t r1 ⟨b', rs', r2, by omega⟩ r4, t⟩
theorem tn_settle (h : Pw w0 w L R F s len n T G K) (hn : n ≤ 400000) : ∃ s', s'.p = s.p.settled ∧ s'.d.waits = [] ∧ Calls Tryz.prog 16 #[.pointer (some ⟨L.P, 0, none⟩)] w fun e w' => e = .returned (.int .i64 0) ∧ ∃ L' R' F', Pw w0 w' L' R' F' s' len (n + 600) T G K ∧ To w w' L R F L' R' F' := by
  obtain ⟨b, rs, g, hTb⟩ := h.lg
  have hl64 := h.lv.l64
  have hl4 := h.lv.l400
  obtain ⟨s', e, p', l', g', c', cm, vw⟩ := settle_lv h.lv g h.calm
  obtain ⟨s'', e', _, _, _, _, w', _⟩ := settle_calm h.lv.pd g h.calm
  have hss : s'' = s' := by
    have := e'.symm.trans e
    injection this
  subst hss
  refine ⟨s'', p', w', ?_⟩
  obtain ⟨k1, k2, k3⟩ := h.rok
  refine (Settle_any h.at_ h.lv.ok h.calm.dead h.calm.few (by omega) (by rw [h.lv.dlen]; omega) k3).mono ?_
  rintro x w' ⟨h1, L', R', F', h2, t⟩
  rw [e] at h1 h2
  exact ⟨h1, L', R', F', h.step h2 t l' ⟨_, _, g', by rw [many_nil]; omega⟩ ⟨c'.dead, c'.set, c'.len, c'.few.mono (by omega)⟩, t⟩
def Td (w wx : World) (D : Nat) (u : Value) (l : List Nat) (T : Nat) (Q : (Nat → Sec) → Prop) (b : Bool) : Prop := ∃ d F V m K, d.dead = b ∧ d.waits = [] ∧ Dsk w wx D F d ∧ HasV 400 d.lasts V T ∧ Mt 400 V m K ∧ m.root = 0 ∧ (∀ k ∈ l, usesU m.used K (k : Int) = true) ∧ Vec wx 1 u l.length (inv l) ∧ (∀ g, u.ownBlock = some g → w.heap.size ≤ g ∧ ¬ F g) ∧ Q V
def Tr (w wx : World) (D : Nat) (u : Value) (l : List Nat) (T : Nat) (Q : (Nat → Sec) → Prop) : Prop := ∃ (d : Dk) (F : Nat → Prop) (V : Nat → Sec) (m : Meta) (K : List Nat), Dsk w wx D F d.reopened ∧ HasV 400 d.lasts V T ∧ Mt 400 V m K ∧ m.root = 0 ∧ (∀ k ∈ l, usesU m.used K (k : Int) = true) ∧ Vec wx 1 u l.length (inv l) ∧ (∀ g, u.ownBlock = some g → w.heap.size ≤ g ∧ ¬ F g) ∧ Q V
def Tp (w wx : World) (D P : Nat) (u : Value) (l : List Nat) (T : Nat) (Q : (Nat → Sec) → Prop) : Prop := ∃ L R F s K, L.P = P ∧ L.D = D ∧ Pw w wx L R F s 400 403 T K K ∧ Nums w wx L R F u l ∧ s.p.m.root = 0 ∧ (∀ k ∈ l, s.p.uses (k : Int) = true) ∧ s.p.count = [] ∧ Q (s.p.view s.d)
theorem Td.only {b : Bool} (h : Td w wx D u l T Q b) : Only None' w wx := by
  obtain ⟨d, F, V, m, K, h1, h2, h3, _⟩ := h
  exact h3.only
theorem Td.isDead {b : Bool} (h : Td w wx D u l T Q b) : Calls Tryz.prog 32 #[.pointer (some ⟨D, 0, none⟩)] wx fun e w' => e = .returned (.bool b) ∧ wx = w' := by
  obtain ⟨d, F, V, m, K, h1, h2, h3, _⟩ := h
  exact h3.isDead h1
theorem Td.crash (h : Td w wx D u l T Q false) {kv : Value} {keep : List Bool} (hr : Rd wx 1 kv keep.length (bo keep)) (hold : bo keep ≠ [] → ∀ g, kv.ownBlock = some g → g < w.heap.size) : Calls Tryz.prog 33 #[.pointer (some ⟨D, 0, none⟩), kv] wx fun e w' => e = .returned (.int .i64 0) ∧ Td w w' D u l T Q true := by
  obtain ⟨d, F, V, m, K, h1, h2, h3, h4, h5, h6, h7, h8, h9, hq⟩ := h
  refine (Crash_any h3.at_ h1 hr (fun hk g hg e => by have := hold hk g hg; have := h3.fresh g e; omega) (by rw [h2]; exact Nat.zero_le _)).mono ?_
  rintro e w' ⟨rfl, F', hd, k⟩
  have el : (d.crashed keep).lasts = d.lasts := by
    show settle _ 0 d.waits d.lasts = _
    rw [h2]; rfl
  refine ⟨rfl, d.crashed keep, F', V, m, K, rfl, rfl, h3.step hd k, by rw [el]; exact h4, h5, h6, h7, h8.only k.only fun g hg e => (h9 g hg).2 e, fun g hg => ⟨(h9 g hg).1, fun e => ?_⟩, hq⟩
  rcases k.fresh g e with e2 | e2
  · exact (h9 g hg).2 e2
  · have := h8.lt hg; omega
theorem Td.reopen (h : Td w wx D u l T Q true) : Calls Tryz.prog 34 #[.pointer (some ⟨D, 0, none⟩)] wx fun e w' => ∃ D', e = .returned (.tuple #[.pointer (some ⟨D', 0, none⟩), .int .i64 0]) ∧ Tr w w' D' u l T Q := by
  obtain ⟨d, F, V, m, K, h1, h2, h3, h4, h5, h6, h7, h8, h9, hq⟩ := h
  refine (h3.reopen h1 rfl).mono ?_
  rintro e w' ⟨D', F', rfl, g1, _, g2, o⟩
  exact ⟨D', rfl, d, F', V, m, K, g1, h4, h5, h6, h7, h8.only o fun _ _ e => e, fun g hg => ⟨(h9 g hg).1, fun e => by have := g2 g e; have := h8.lt hg; omega⟩, hq⟩
theorem Tr.open_ (h : Tr w wx D u l T Q) (hT : T ≤ 999999000) : Calls Tryz.prog 17 #[.pointer (some ⟨D, 0, none⟩)] wx fun e w' => ∃ P, e = .returned (.tuple #[.pointer (some ⟨P, 0, none⟩), .int .i64 0]) ∧ Tp w w' D P u l T Q := by
  obtain ⟨d, F, V, m, K, h3, h4, h5, h6, h7, h8, h9, hq⟩ := h
  have hlen : d.reopened.lasts.length = 400 := by
    obtain ⟨_, _, _, o, _⟩ := h4
    exact o.ln
  have hc : d.reopened.Calm 400 0 := ⟨rfl, rfl, hlen, Dk.Few.reopened⟩
  have tw : Tw 1000 d.reopened d.reopened := ⟨rfl, rfl, rfl, rfl, (fun e => by cases e), by show -(0 : Int) ≤ (0 : Int); omega, by show (0 : Int) ≤ _; omega, Nat.zero_le _, rfl, rfl⟩
  obtain ⟨p, r, e', eo, lo, ⟨b, gb, hb⟩, co, wo, o1, o2, o3, o4, o5, o6, _⟩ := open_tw tw hc rfl (by decide) (by decide) h4 (by omega) h5
  refine (Open_any h3.at_ rfl hc.few (by decide) (by rw [hlen]; decide) (by rw [hlen]; decide)).mono ?_
  intro x w' hx
  unfold OpenRes at hx
  rw [eo] at hx
  rcases hx with ⟨h1, _⟩ | ⟨_, L', R', F', rfl, q4, qD, qL, qR, qK⟩
  · exact absurd rfl h1
  have hs0 := h3.only.size
  have hd := h3.step (by have := q4.disk; rw [qD] at this; exact this) qK
  have hall : ∀ k, allS L' R' F' k → w.heap.size ≤ k := fun k hk => by
    rcases hk with e | rfl | e
    · have := qL k e; omega
    · omega
    · exact hd.fresh k e
  refine ⟨L'.P, rfl, L', R', F', ⟨p, r, e'⟩, K, rfl, qD, ⟨q4, hall, hd.only, lo, ⟨b, [], gb, by rw [many_nil]; omega⟩, co⟩, ⟨h8.only qK.only fun g hg e => (h9 g hg).2 e, fun g hg => ⟨(h9 g hg).1, fun e => ?_⟩⟩, by show p.m.root = 0; rw [o1]; exact h6, fun k hk => ?_, o6, by show Q (p.view e'); rw [o4]; exact hq⟩
  · have hlt := h8.lt hg
    rcases e with e | rfl | e
    · have := qL g e; omega
    · omega
    · rcases qK.fresh g e with e2 | e2
      · exact (h9 g hg).2 e2
      · omega
  · show p.uses (k : Int) = true
    rw [lo.uses, o1]
    exact h7 k hk
theorem Pw.td (h : Pw w wx L R F s 400 n T G G) (hn : Nums w wx L R F u l) (hw : s.d.waits = []) (hr : s.p.m.root = 0) (hk : s.p.kept = s.p.m) (hu : ∀ k ∈ l, s.p.uses (k : Int) = true) (hq : Q (s.p.comm s.d)) : Td w wx L.D u l T Q false := by
  obtain ⟨b, rs, g, hT⟩ := h.lg
  obtain ⟨o, hv, _⟩ := Lg.onD h.lv.pd g hw
  refine ⟨s.d, F, s.p.comm s.d, s.p.kept, G, h.calm.dead, hw, ⟨h.at_.disk, fun k hk => h.new k (.inr (.inr hk)), h.only⟩, ⟨b, rs, _, o.upto hT, hv⟩, h.lv.cm.mt, by rw [hk]; exact hr, fun k hkl => ?_, hn.row, fun g hg => ⟨(hn.fresh g hg).1, fun e => (hn.fresh g hg).2 (.inr (.inr e))⟩, hq⟩
  have := hu k hkl
  rw [h.lv.uses] at this
  rw [hk]
  exact this
theorem torn_commit (h : Pw w wx L R F s 400 n T G G) (hnu : Nums w wx L R F u l) (hw : s.d.waits = []) (hr0 : s.p.m.root = 0) (hk : s.p.kept = s.p.m) (hu : ∀ k ∈ l, s.p.uses (k : Int) = true) (hcnt : s.p.count.length ≤ 50) (hn : n ≤ 400000) (hT : T ≤ 999990000) (k : Nat) (hk1 : k ≤ 1000) {kv : Value} {keep : List Bool} (hr : Rd wx 1 kv keep.length (bo keep)) (hkl : keep.length ≤ 140737488351232) (hQ : ∀ V, Q V) :
    Calls Tryz.prog 31 #[.pointer (some ⟨L.D, 0, none⟩), .int .i64 (k : Int), kv] wx fun e w' => e = .returned (.int .i64 0) ∧ Calls Tryz.prog 13 #[.pointer (some ⟨L.P, 0, none⟩)] w' fun e w'' => ∃ c, e = .returned (.int .i64 c) ∧ (c = 0 ∨ c = 20) ∧ ∃ b, Td w w'' L.D u l (T + 100) Q b := by
  refine (fuse_any h.at_.disk h.calm.dead k hr hkl).mono ?_
  rintro e w' ⟨rfl, F', hd, kp⟩
  obtain ⟨hs, tt⟩ := h.at_.redisk hd kp
  refine ⟨rfl, ?_⟩
  have hl := h.lv
  have tw : Tw 0 (s.d.fused k keep) s.d := ⟨rfl, rfl, rfl, h.calm.dead, fun _ => by show ((0 : Nat) : Int) ≤ (k : Int); omega, by
    have := h.calm.few.done0
    show -s.d.done ≤ (k : Int)
    omega, by show (k : Int) ≤ _; omega, hkl, h.calm.dead, h.calm.set⟩
  obtain ⟨b, rs, g, hTb⟩ := h.lg
  obtain ⟨s', b', rs', es, r1, r2, r3, r4, r4w, r5, r6, r7, r8, r9, r10, rr⟩ := commit_tw (s := ⟨s.p, s.r, s.d.fused k keep⟩) tw hl g h.calm hw (by show s.p.count.length ≤ _; omega) (.inl hr0) (by omega)
  obtain ⟨k1, k2, k3⟩ := h.rok
  refine (commit_any hs hl.ok k1 h.calm.dead (tw.few h.calm.few) (by omega) (by show 8 ≤ s.d.lasts.length; rw [hl.dlen]; decide) (by show s.r.first + s.r.count ≤ s.d.lasts.length; rw [hl.dlen]; exact k2) (by have := hl.nlen; have := hl.few; show s.p.now.length ≤ _; omega)).mono ?_
  rintro e w'' ⟨rfl, L', R', F2, h2, t2⟩
  have t := tt.trans t2
  have hnew : ∀ i, F2 i → w.heap.size ≤ i := fun i hi => by
    rcases t.kept.fresh i (.inr (.inr hi)) with e | e
    · exact h.new i e
    · have := h.only.size; omega
  have hdk := h2.disk
  rw [t2.D] at hdk
  have hds : Dsk w w'' L.D F2 (Sy.mk s.p s.r (s.d.fused k keep)).commit.2.d := ⟨hdk, hnew, h.only.trans2 t.only fun i hi e => by have := h.new i e; omega⟩
  have hnu' := hnu.to t
  have hfar : ∀ g, u.ownBlock = some g → w.heap.size ≤ g ∧ ¬ F2 g := fun g hg => ⟨(hnu'.fresh g hg).1, fun e => (hnu'.fresh g hg).2 (.inr (.inr e))⟩
  have huse : ∀ q : Meta, q = s.p.m → ∀ k ∈ l, usesU q.used G (k : Int) = true := fun q e k hkl => by
    have := hu k hkl
    rw [hl.uses] at this
    rw [e]
    exact this
  have mt1 : Mt 400 (s.p.comm s.d) s.p.kept G := hl.cm.mt
  have mt2 : Mt 400 (s'.p.comm s'.d) s'.p.kept G := r1.cm.mt
  rcases rr with ⟨a1, a2, a3, a4⟩ | ⟨_, a1, a2, a3, a4⟩
  · obtain ⟨o, hv, _⟩ := Lg.onD r1.pd r2 r4w
    refine ⟨_, rfl, .inl a1, false, _, F2, s'.p.comm s'.d, s'.p.kept, G, a4.dead, by rw [a4.waits]; exact r4w, hds, ⟨b', rs', _, by rw [a4.lasts]; exact o.upto (by omega), by rw [a4.lasts]; exact hv⟩, mt2, by rw [r6]; exact hr0, huse _ r6, hnu'.row, hfar, hQ _⟩
  · rcases a4 with a4 | a4
    · exact ⟨_, rfl, .inr a1, true, _, F2, s.p.comm s.d, s.p.kept, G, a2, a3, hds, a4.upto (by omega), mt1, by rw [hk]; exact hr0, huse _ hk, hnu'.row, hfar, hQ _⟩
    · exact ⟨_, rfl, .inr a1, true, _, F2, s'.p.comm s'.d, s'.p.kept, G, a2, a3, hds, a4.upto (by omega), mt2, by rw [r6]; exact hr0, huse _ r6, hnu'.row, hfar, hQ _⟩
end
end Go.Proofs.YteoeaojebklfjaaGreatDoor
