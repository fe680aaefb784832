/- U6 U7 in one text. -/
import Derived.Test.YteoeaojebklfjaaGreatDoorWLost1
namespace Go.Proofs.YteoeaojebklfjaaGreatDoor
open Go.RowKit Go.Maps
set_option linter.unusedVariables false
set_option linter.unusedSimpArgs false
set_option maxRecDepth 20000
theorem mrow_cons (q : MPg) (l : List MPg) : mrow (q :: l) = .int .i64 q.n :: .bool q.known :: .string q.text :: mrow l := rfl
theorem mrow_known : ∀ (l : List MPg) (i : Nat) {p : MPg} (b : Bool), l[i]? = some p → (mrow l).take (i * 3 + 1) ++ [.bool b] ++ (mrow l).drop (i * 3 + 1 + 1) = mrow (l.set i ⟨p.n, b, p.text⟩)
  | [], i, p, b, h => by simp at h
  | q :: l, 0, p, b, h => by
    simp at h; subst h
    rfl
  | q :: l, i + 1, p, b, h => by
    have h' : l[i]? = some p := by simpa using h
    have ih := mrow_known l i b h'
    have e1 : (i + 1) * 3 + 1 = i * 3 + 1 + 3 := by omega
    have e2 : i * 3 + 1 + 3 + 1 = i * 3 + 1 + 1 + 3 := by omega
    rw [List.set_cons_succ, mrow_cons, mrow_cons, ← ih, e1, e2]
    simp
theorem mrow_text : ∀ (l : List MPg) (i : Nat) {p : MPg} (b : ByteArray), l[i]? = some p → (mrow l).take (i * 3 + 2) ++ [.string b] ++ (mrow l).drop (i * 3 + 2 + 1) = mrow (l.set i ⟨p.n, p.known, b⟩)
  | [], i, p, b, h => by simp at h
  | q :: l, 0, p, b, h => by
    simp at h; subst h
    rfl
  | q :: l, i + 1, p, b, h => by
    have h' : l[i]? = some p := by simpa using h
    have ih := mrow_text l i b h'
    have e1 : (i + 1) * 3 + 2 = i * 3 + 2 + 3 := by omega
    have e2 : i * 3 + 2 + 3 + 1 = i * 3 + 2 + 1 + 3 := by omega
    rw [List.set_cons_succ, mrow_cons, mrow_cons, ← ih, e1, e2]
    simp
theorem findP_some {l : List MPg} {n : Int} (h : 0 ≤ findP l n) : ∃ (i : Nat) (p : MPg), findP l n = (i : Int) ∧ l[i]? = some p ∧ p.n = n := by
  unfold findP at h ⊢
  cases hx : l.findIdx? (fun p => p.n == n) with
  | none => rw [hx] at h; simp at h
  | some i =>
    obtain ⟨hl, e, _⟩ := List.findIdx?_eq_some_iff_getElem.1 hx
    exact ⟨i, l[i], rfl, List.getElem?_eq_getElem hl, by simpa using e⟩
theorem slice_inj {g g' off off' n n' c c' : Nat} (h : Value.slice (some ⟨g, off, none⟩) n c = .slice (some ⟨g', off', none⟩) n' c') : g' = g ∧ off' = off := by
  injection h with h _ _
  injection h with h
  injection h with h1 h2
  exact ⟨h1.symm, h2.symm⟩
def Mi.wrote (m : Mi) (i : Nat) (n : Int) (x : ByteArray) : Mi := { m with now := m.now.set i ⟨n, true, x⟩ }
section
variable {w w' : World} {M : Nat} {v : Mv} {m : Mi}
theorem MindAt.cellN (h : MindAt w M v m) {g off cap : Nat} (hn : v.n = .slice (some ⟨g, off, none⟩) m.now.length cap) {j : Nat} {u : Value} {l : List MPg} (hl : l.length = m.now.length) (hj : j < m.now.length * 3) (e : (mrow m.now).take j ++ [u] ++ (mrow m.now).drop (j + 1) = mrow l) : MindAt (w.setCell ⟨g, off + j, none⟩ u) M v { m with now := l } ∧ Kept (mS M v) (mS M v) w (w.setCell ⟨g, off + j, none⟩ u) := by
  have hg : v.n.ownBlock = some g := by rw [hn]; rfl
  have o := (Only.refl (fun k => k = g) w).setCell (p := ⟨g, off + j, none⟩) rfl u
  have hv := h.now
  rw [hn] at hv
  have hp := hv.put (o := j) (vs := [u]) (by simp; omega)
  have hp' : Vec (w.setCell ⟨g, off + j, none⟩ u) 3 v.n l.length (mrow l) := by
    rw [hn, hl, ← e]
    exact hp
  refine ⟨⟨h.cells.kept o fun e => h.an (by rw [hg, e]), hp', h.kept.only o fun k hk e => h.nk g hg (e ▸ hk), h.ch.only o fun k hk e => h.nc g hg (e ▸ hk), h.an, h.ak, h.ac, h.nk, h.nc, h.kc⟩, Kept.only' (o.mono fun k _ e => .inr (.inl (e ▸ hg)))⟩
theorem MindAt.known (h : MindAt w M v m) {g off cap : Nat} (hn : v.n = .slice (some ⟨g, off, none⟩) m.now.length cap) {i : Nat} {p : MPg} (hi : m.now[i]? = some p) : MindAt (w.setCell ⟨g, off + i * 3 + 1, none⟩ (.bool true)) M v { m with now := m.now.set i ⟨p.n, true, p.text⟩ } ∧ Kept (mS M v) (mS M v) w (w.setCell ⟨g, off + i * 3 + 1, none⟩ (.bool true)) := by
  have hl := (List.getElem?_eq_some_iff.1 hi).1
  have := h.cellN hn (j := i * 3 + 1) (u := .bool true) (l := m.now.set i ⟨p.n, true, p.text⟩) (by simp) (by omega) (mrow_known m.now i true hi)
  rwa [← Nat.add_assoc] at this
theorem MindAt.text (h : MindAt w M v m) {g off cap : Nat} (hn : v.n = .slice (some ⟨g, off, none⟩) m.now.length cap) {i : Nat} {p : MPg} (hi : m.now[i]? = some p) (x : ByteArray) : MindAt (w.setCell ⟨g, off + i * 3 + 2, none⟩ (.string x)) M v { m with now := m.now.set i ⟨p.n, p.known, x⟩ } ∧ Kept (mS M v) (mS M v) w (w.setCell ⟨g, off + i * 3 + 2, none⟩ (.string x)) := by
  have hl := (List.getElem?_eq_some_iff.1 hi).1
  have := h.cellN hn (j := i * 3 + 2) (u := .string x) (l := m.now.set i ⟨p.n, p.known, x⟩) (by simp) (by omega) (mrow_text m.now i x hi)
  rwa [← Nat.add_assoc] at this
end
section
variable {a : Act} {o : Oper} {x y z : Operand} {g off : Nat}
theorem wp_store9 {w : World} {K : Act → World → Prop} {Q : Exit → Act → World → Prop} {p : ByteArray} {u : Value} (ho : o.op = .store 9 x y) (hx : a.eval x = .pointer (some ⟨g, off, none⟩)) (hy : a.eval y = .string p) (hc : w.cell? ⟨g, off, none⟩ = some u) (hf : w.frozen? ⟨g, off, none⟩ = false)
    (hK : K (a.put o.dst undef) (w.setCell ⟨g, off, none⟩ (.string p))) : o.wp Tryz.prog a w K Q := by
  unfold Oper.wp execOp
  simp only [ho, hx, hy]
  go_simp
  exact hK
end
section
variable {w0 : Fr} {w w' : World} {L L' : Lo} {R R' : Nat} {F F' : Nat → Prop} {s s' : Sy} {M : Nat} {v v' : Mv} {m m' : Mi} {len n : Nat} {G K : List Nat}
theorem Bo.aside (h : Bo w0 w L R F s M v m) {S : Nat → Prop} (o : Only S w w') (hS : ∀ k, S k → (w0.w.heap.size ≤ k ∨ w0.z k) ∧ ¬ allS L R F k ∧ ¬ mS M v k) : Bo w0 w' L R F s M v m :=
  ⟨h.sy.only o fun k hk e => (hS k e).2.1 hk, h.mi.only o fun k hk e => (hS k e).2.2 hk, h.ap, h.ns, h.nm, h.only.trans2 o fun k hk e => ((hS k e).1).elim (fun h2 => absurd hk (by omega)) id⟩
theorem byte_slot {w : World} {g cap n : Nat} {l : List UInt8} (h : Vec w 1 (.slice (some ⟨g, 0, none⟩) n cap) n (bv l)) {j : Nat} (hj : j < n) : ∃ u, w.cell? ⟨g, j, none⟩ = some u ∧ w.frozen? ⟨g, j, none⟩ = false := by
  obtain ⟨g', off, c, e, hc, _, _, _, hf⟩ := h.at_ (by omega)
  obtain ⟨rfl, rfl⟩ := slice_inj e
  obtain ⟨a, b⟩ := hf j (by injection e with _ _ e3; omega)
  rw [Nat.zero_add] at a b
  obtain ⟨u, hu⟩ := Option.isSome_iff_exists.1 a
  exact ⟨u, hu, b⟩
theorem MindAt.slot (h : MindAt w M v m) {i : Nat} {p : MPg} (hi : m.now[i]? = some p) : ∃ g off cap, v.n = .slice (some ⟨g, off, none⟩) m.now.length cap ∧ w.cell? ⟨g, off + i * 3 + 1, none⟩ = some (.bool p.known) ∧ w.frozen? ⟨g, off + i * 3 + 1, none⟩ = false ∧ w.cell? ⟨g, off + i * 3 + 2, none⟩ = some (.string p.text) ∧ w.frozen? ⟨g, off + i * 3 + 2, none⟩ = false := by
  obtain ⟨hl, _⟩ := List.getElem?_eq_some_iff.1 hi
  obtain ⟨g, off, cap, e, hcap, _, _, hc, hf⟩ := h.now.at_ (by omega)
  obtain ⟨a, b, c⟩ := mrow_at m.now i hi
  have f1 := (hf (i * 3 + 1) (by omega)).2
  have f2 := (hf (i * 3 + 2) (by omega)).2
  have c1 := hc _ _ b
  have c2 := hc _ _ c
  rw [← Nat.add_assoc] at f1 f2 c1 c2
  exact ⟨g, off, cap, e, c1, f1, c2, f2⟩
set_option maxHeartbeats 2000000 in
theorem do1 (h : Bo w0 w L R F s M v m) (l : Li s len n G K) (hn : n ≤ 400000) (lm : Lim s m) (hsm : Same s m) (st : Stp) (hk : st.kind = 1) : Calls Tryz.prog 24 #[.pointer (some ⟨L.D, 0, none⟩), .pointer (some ⟨L.P, 0, none⟩), .pointer (some ⟨M, 0, none⟩), st.v] w fun e w' => (∃ (k i : Nat) (p : MPg), s.p.uses (k : Int) = true ∧ m.now[i]? = some p ∧ p.n = (k : Int) ∧ DoOut w0 L.D M ⟨s.p.touched k (fullB st.what), s.r, s.d⟩ ((m.wrote i (k : Int) (Go.Proofs.YteoeaojebklfjaaGreatDoor.st (fullB st.what))).touch (k : Int)) true false e w') ∨ DoOut w0 L.D M s m true false e w' := by
  obtain ⟨kind, at_, what, odd⟩ := st
  simp only at hk ⊢
  subst hk
  have HP := Lib.hid fun w' (o : Only None' w w') => page_any (h.new o).mi ⟨1, at_, what, odd⟩ lm.now
  unfold Stp.v at HP ⊢
  obtain ⟨cv, hcv⟩ : ∃ cv, cv = (what.toNat : Int) := ⟨_, rfl⟩
  simp only [← hcv] at HP ⊢
  have HCV := Lib.hid hcv
  have H := Lib.hid (And.intro h (And.intro l (And.intro lm (And.intro hn hsm))))
  clear h l lm hn hsm hcv
  go_enter Tryz.func24, Tryz.ntmps24
  go_wp2_with fail
  refine (HP.out _ ((Only.refl None' w).alloc _)).mono ?_
  rintro e w2 ⟨nn, rfl, o2⟩
  have H2 := Lib.hid (H.out.1.new (((Only.refl None' w).alloc _).trans o2))
  have HKC : Hid (w2.cell? ⟨w.heap.size, 0, none⟩ = some (.int .i64 1)) := Lib.hid (by rw [o2.cell (by simp) fun e => e, World.cell?_alloc_new]; rfl)
  have HKC2 : Hid (∀ w', Only None' w2 w' → w'.cell? ⟨w.heap.size, 2, none⟩ = some (.int .u8 cv)) := Lib.hid fun w' o => by rw [o.cell (by have := o2.size; simp at this; omega) fun e => e, o2.cell (by simp) fun e => e, World.cell?_alloc_new]; rfl
  clear o2
  go_wp2_with fail
  refine (mfind H2.out.mi nn H.out.2.2.1.now).mono ?_
  rintro e w3 ⟨rfl, rfl⟩
  have hkc := HKC.out
  have hk2 := HKC2.out w2 (Only.refl _ _)
  have hfl := full_any what w2
  obtain ⟨px, hpx⟩ : ∃ px, px = fullB what := ⟨_, rfl⟩
  obtain ⟨sx, hsx⟩ : ∃ sx, sx = Go.Proofs.YteoeaojebklfjaaGreatDoor.st px := ⟨_, rfl⟩
  have HPX := Lib.hid (And.intro hpx (And.intro hsx (show px.length = 512 by rw [hpx]; exact fullB_len _)))
  rw [← HCV.out, ← hpx] at hfl
  clear hpx hsx
  have HFL := Lib.hid hfl
  clear hfl
  rcases H.out.2.2.2.2 nn with ⟨hu, hp⟩ | ⟨hu, hp⟩
  · obtain ⟨k, e, _⟩ := H.out.2.1.lv.in_use hu
    subst e
    obtain ⟨i, p, hpi, hi, hpn⟩ := findP_some hp
    have HU := Lib.hid (And.intro hu (And.intro hi hpn))
    rw [hpi]
    have i0 : ¬ (i : Int) < 0 := by omega
    have i00 : 0 ≤ (i : Int) := by omega
    clear hu hi hpn hpi hp
    go_wp2_with fail
    refine HFL.out.mono ?_
    rintro e w4 ⟨g5, rfl, hv5, hg5, o5⟩
    have H4 := Lib.hid (H2.out.new o5)
    have HG := Lib.hid (And.intro hg5 (And.intro hv5 (hv5.lt rfl)))
    clear hv5 hg5 o5 hk2
    go_wp2_with fail
    refine (sy_write H4.out.sy H.out.2.1 HU.out.1 HG.out.2.1 HPX.out.2.2 (fun e => by have := H2.out.sy.lt (.inl e); have := HG.out.1; omega)).mono ?_
    rintro e w5 ⟨rfl, h5, t5⟩
    have H5 := Lib.hid (H4.out.sys h5 t5)
    have HT5 := Lib.hid (And.intro t5.P t5.D)
    have HG5 := Lib.hid (And.intro HG.out.1 (And.intro (HG.out.2.1.only t5.only fun k hk e => by injection hk with hk; have e1 : g5 = k := hk; subst e1; have := H2.out.sy.lt e; have := HG.out.1; omega) (Nat.lt_of_lt_of_le HG.out.2.2 t5.only.size)))
    obtain ⟨g, off, cap, hn5, c1, f1, c2, f2⟩ := H5.out.mi.slot HU.out.2.1
    have hc1 := H5.out.mi.cells.is 1 _ rfl
    rw [hn5] at hc1
    have hil : (i : Int) < (m.now.length : Int) := by have := (List.getElem?_eq_some_iff.1 HU.out.2.1).1; omega
    obtain ⟨ln, hln⟩ : ∃ ln, ln = m.now.length := ⟨_, rfl⟩
    rw [← hln] at hc1 hil
    have HN5 := Lib.hid (And.intro hn5 (And.intro hln (show i < ln by omega)))
    clear h5 t5 HG hn5 hln hkc
    go_upto_region 25 with fail
    have hk6 := H5.out.mi.known HN5.out.1 HU.out.2.1
    have h6 := H5.out.mind hk6.1 hk6.2
    obtain ⟨w6, hw6⟩ : ∃ w6, w6 = w5.setCell ⟨g, off + i * 3 + 1, none⟩ (.bool true) := ⟨_, rfl⟩
    rw [← hw6] at h6 ⊢
    have o6 : Only (fun k => k = g) w5 w6 := hw6 ▸ (Only.refl (fun k => k = g) w5).setCell (p := ⟨g, off + i * 3 + 1, none⟩) rfl _
    have hgm : mS M v g := .inr (.inl (by rw [HN5.out.1]; rfl))
    have hv6 := HG5.out.2.1.only o6 fun k hk e => by injection hk with hk; have e1 : g5 = k := hk; have := H2.out.mi.lt hgm; have := HG5.out.1; omega
    obtain ⟨m6, hm6⟩ : ∃ m6, m6 = ({ m with now := m.now.set i ⟨p.n, true, p.text⟩ } : Mi) := ⟨_, rfl⟩
    have hsl : ∃ p6, m6.now[i]? = some p6 ∧ ({ m6 with now := m6.now.set i ⟨p6.n, p6.known, sx⟩ } : Mi) = m.wrote i (k : Int) sx := by
      refine ⟨⟨p.n, true, p.text⟩, ?_, ?_⟩
      · rw [hm6]
        show (m.now.set i ⟨p.n, true, p.text⟩)[i]? = _
        rw [List.getElem?_set_self (by have := HN5.out.2.1; have := HN5.out.2.2; omega)]
      · rw [hm6]
        unfold Mi.wrote
        rw [HU.out.2.2, List.set_set]
    have hl6 : m6.now.length = ln ∧ m6.ch = m.ch := by rw [hm6]; exact ⟨by show (m.now.set i _).length = _; rw [List.length_set]; exact HN5.out.2.1.symm, rfl⟩
    rw [← hm6] at h6
    obtain ⟨p6, hp6, he6⟩ := hsl
    have HX6 := Lib.hid (And.intro h6 (And.intro hv6 (And.intro hgm (And.intro o6.size hp6))))
    have HE6 := Lib.hid (And.intro he6 hl6)
    clear hp6 he6 hl6 hm6
    have HCC : Hid (∀ w', Only None' w6 w' → w'.cell? ⟨M, 1, none⟩ = some (.slice (some ⟨g, off, none⟩) ln cap)) := Lib.hid fun w' o => by
      have := (h6.mi.new o).cells.is 1 _ rfl
      rw [HN5.out.1, ← HN5.out.2.1] at this
      exact this
    clear c1 f1 c2 f2 hc1 hk6 hw6 h6 o6 hgm hv6

    refine r_begin' (W := [9]) (S := fun k => k = g) (by kernel_rfl) ?_
    have HS := Lib.hid (Only.refl None' w6)
    refine r_take' 0 (.pointer (some ⟨M, 0, none⟩)) rfl (by kernel_rfl) (fun _ _ _ h => h) (HS.out.mono fun _ _ e => e.elim) (YR.pure (by rfl) fun w hw => y_move w rfl rfl) ?_
    simp only [Act.put, zA, zB, zC]
    refine r_take' 1 (.pointer (some ⟨M, 0, none⟩)) rfl (by kernel_rfl) (fun _ _ _ h => h) (HS.out.mono fun _ _ e => e.elim) (YR.pure (by rfl) fun w hw => y_nil w rfl rfl) ?_
    simp only [Act.put, zA, zB, zC]
    refine r_take' 2 (.pointer (some ⟨M, 1, none⟩)) rfl (by kernel_rfl) (fun _ _ _ h => h) (HS.out.mono fun _ _ e => e.elim) (YR.pure (by rfl) fun w hw => y_f50_1 w rfl rfl) ?_
    simp only [Act.put, zA, zB, zC]
    refine r_takeN 3 (.slice (some ⟨g, off, none⟩) ln cap) rfl (by kernel_rfl) (by kernel_rfl) (fun _ _ _ h => h) HS.out (YR.pure (by rfl) fun w hw => y_load48 rfl rfl (HCC.out w hw)) ?_
    simp only [Act.put, zA, zB, zC]
    refine r_take' 4 (.int .i64 (i : Int)) rfl (by kernel_rfl) (fun _ _ _ h => h) (HS.out.mono fun _ _ e => e.elim) (YR.pure (by rfl) fun w hw => y_move w rfl rfl) ?_
    simp only [Act.put, zA, zB, zC]
    refine r_take' 5 (.slice (some ⟨g5, 0, none⟩) 512 512) rfl (by kernel_rfl) (fun _ _ _ h => h) (HS.out.mono fun _ _ e => e.elim) (YR.pure (by rfl) fun w hw => y_move w rfl rfl) ?_
    simp only [Act.put, zA, zB, zC]
    refine r_takeN 6 (.string sx) rfl (by kernel_rfl) (by kernel_rfl) (fun _ _ _ h => h) HS.out (YR.pure (by rfl) fun w hw => (by rw [HPX.out.2.1]; exact y_str HPX.out.2.2.symm ((HX6.out.2.1.only hw fun _ _ e => e).rd) rfl rfl)) ?_
    simp only [Act.put, zA, zB, zC]
    refine r_take' 7 (.pointer (some ⟨g, off + i * 3, none⟩)) rfl (by kernel_rfl) (fun _ _ _ h => h) (HS.out.mono fun _ _ e => e.elim) (YR.pure (by rfl) fun w hw => y_idx48 w HN5.out.2.2 rfl rfl rfl) ?_
    simp only [Act.put, zA, zB, zC]
    refine r_take' 8 (.pointer (some ⟨g, off + i * 3 + 2, none⟩)) rfl (by kernel_rfl) (fun _ _ _ h => h) (HS.out.mono fun _ _ e => e.elim) (YR.pure (by rfl) fun w hw => y_f99_2 w rfl rfl) ?_
    simp only [Act.put, zA, zB, zC]
    refine r_one' 9 rfl (by kernel_rfl) (by rfl) fun wi oi => ?_
    have hmi := HX6.out.1.mi.new (HS.out.trans oi)
    obtain ⟨g2, off2, cap2, hn2, _, _, c3, f3⟩ := hmi.slot HX6.out.2.2.2.2
    have he := HN5.out.1
    rw [hn2] at he
    obtain ⟨he1, he2⟩ := slice_inj he
    subst he1; subst he2
    have htx := hmi.text hn2 HX6.out.2.2.2.2 sx
    have h7 := (HX6.out.1.new (HS.out.trans oi)).mind htx.1 htx.2
    rw [HE6.out.1] at h7
    have hv7 := (HX6.out.2.1.only (HS.out.trans oi) fun _ _ e => e).only ((Only.refl (fun k => k = g) wi).setCell (p := ⟨g, off + i * 3 + 2, none⟩) rfl (.string sx)) fun k hk e => by injection hk with hk; have e1 : g5 = k := hk; have := H2.out.mi.lt HX6.out.2.2.1; have := HG5.out.1; omega
    have hz7 : w6.heap.size ≤ (wi.setCell ⟨g, off + i * 3 + 2, none⟩ (.string sx)).heap.size := Nat.le_trans (HS.out.trans oi).size (by simp [World.setCell])
    refine wp_store9 (p := sx) rfl rfl rfl c3 f3 ⟨((Only.refl (fun k => k = g) wi).setCell (p := ⟨g, off + i * 3 + 2, none⟩) rfl _).mono fun k _ e => ⟨rfl, e⟩, ?_⟩
    simp only [Act.put, zA, zB, zC]
    have HT := Lib.hid (And.intro h7 (And.intro hv7 hz7))
    clear HS oi htx h7 hv7 hz7 c3 f3 hn2 hmi
    have HS := HT
    clear HT
    refine r_done' (by kernel_rfl) fun wz oz => ?_
    have HZ := Lib.hid (And.intro (HS.out.1.new oz) (And.intro (HS.out.2.1.only oz fun _ _ e => e) (show g5 < wz.heap.size by have := oz.size; have := HS.out.2.2; have := HX6.out.2.2.2.1; have := HG5.out.2.2; omega)))
    have HNM : Hid (¬ mS M v g5 ∧ ¬ allS L R F g5) := Lib.hid ⟨fun e => by have := H2.out.mi.lt e; have := HG5.out.1; omega, fun e => by have := H2.out.sy.lt e; have := HG5.out.1; omega⟩
    clear HS oz HCC he
    go_wp2_with fail
    refine (mtouch HZ.out.1.mi (k : Int) (show m.ch.length ≤ _ from H.out.2.2.1.ch)).mono ?_
    rintro e w8 ⟨rfl, v8, h8, k8⟩
    have hv8 := HZ.out.2.1.only k8.only fun kk hk e => by
      have e1 : g5 = kk := Option.some.inj hk
      subst e1
      exact HNM.out.1 e
    have H8 := Lib.hid (HZ.out.1.mind h8 k8)
    have HN8 : Hid (¬ mS M v8 g5) := Lib.hid fun e => by
      rcases k8.fresh g5 e with e2 | e2
      · exact HNM.out.1 e2
      · have := HZ.out.2.2; omega
    obtain ⟨o3, c3, f3⟩ := byte_slot hv8 (j := 3) (by decide)
    clear h8 k8 hv8
    go_wp2_with fail
    go_ret3
    have hsx := HPX.out.2.1
    rw [HPX.out.1] at hsx
    refine .inl ⟨k, i, p, HU.out.1, HU.out.2.1, HU.out.2.2, L, R, F, v8, rfl, ?_, rfl⟩
    have hb := H8.out.aside ((Only.refl (fun k => k = g5) w8).setCell (p := ⟨g5, 3, none⟩) rfl (.int .u8 88)) fun q e => by subst e; exact ⟨.inl (by have := HG5.out.1; have := H2.out.only.size; omega), HNM.out.2, HN8.out⟩
    rw [HPX.out.1, hsx] at hb
    exact hb
  · rw [hp]
    have HU := Lib.hid hu
    clear hu hp
    go_wp2_with fail
    refine HFL.out.mono ?_
    rintro e w4 ⟨g5, rfl, hv5, hg5, o5⟩
    have H4 := Lib.hid (H2.out.new o5)
    have HNM : Hid (w0.w.heap.size ≤ g5 ∧ ¬ allS L R F g5 ∧ ¬ mS M v g5) := Lib.hid ⟨by have := H2.out.only.size; omega, fun e => by have := H2.out.sy.lt e; omega, fun e => by have := H2.out.mi.lt e; omega⟩
    obtain ⟨o3, c3, f3⟩ := byte_slot hv5 (j := 3) (by decide)
    have hkc4 : w4.cell? ⟨w.heap.size, 0, none⟩ = some (.int .i64 1) := by rw [o5.cell (World.block_lt_of_cell? w2 _ hkc) fun e => e]; exact hkc
    clear hv5 hg5 o5 hk2
    go_wp2_with fail
    refine (pwrite_no H4.out.sy.pg H.out.2.1.lv.ok HU.out _).mono ?_
    rintro e w5 ⟨rfl, rfl⟩
    clear hkc
    go_wp2_with fail
    go_ret3
    exact .inr ⟨_, _, _, _, rfl, H4.out.aside ((Only.refl (fun k => k = g5) w4).setCell (p := ⟨g5, 3, none⟩) rfl (.int .u8 88)) (fun q e => by subst e; exact ⟨.inl HNM.out.1, HNM.out.2⟩), rfl⟩
end
end Go.Proofs.YteoeaojebklfjaaGreatDoor
namespace Go.Proofs.YteoeaojebklfjaaGreatDoor
open Go.RowKit Go.Maps
set_option linter.unusedVariables false
set_option linter.unusedSimpArgs false
set_option maxRecDepth 20000
structure Ro (s : Sy) : Prop where
  rok : s.r.Ok
  fit : s.r.first + s.r.count ≤ s.d.lasts.length
  l8 : 8 ≤ s.d.lasts.length
  now : s.p.now.length ≤ 1000
  top : s.r.top ≤ 4611686018427387904
  few : s.d.lasts.length ≤ 1000
section
variable {w0 : Fr} {w w' : World} {L L' : Lo} {R R' : Nat} {F F' : Nat → Prop} {s s' : Sy} {M : Nat} {v v' : Mv} {m m' : Mi} {len n : Nat} {G K : List Nat}
set_option maxHeartbeats 2000000 in
theorem do4_full (h : Bo w0 w L R F s M v m) (l : Li s len n G K) (hn : n ≤ 400000) (lm : Lim s m) (hsm : Same s m) (st : Stp) (hk : st.kind = 4)(ro : Ro s) (hc : s.commit = (3, s)) (hch : s.d.lasts.length / 8 < m.ch.length) : Calls Tryz.prog 24 #[.pointer (some ⟨L.D, 0, none⟩), .pointer (some ⟨L.P, 0, none⟩), .pointer (some ⟨M, 0, none⟩), st.v] w (DoOut w0 L.D M s m true false) := by
  obtain ⟨kind, at_, what, odd⟩ := st
  simp only at hk ⊢
  subst hk
  have HP := Lib.hid fun w' (o : Only None' w w') => page_any (h.new o).mi ⟨4, at_, what, odd⟩ lm.now
  unfold Stp.v at HP ⊢
  obtain ⟨cv, hcv⟩ : ∃ cv, cv = (what.toNat : Int) := ⟨_, rfl⟩
  simp only [← hcv] at HP ⊢
  have HCV := Lib.hid hcv
  have H := Lib.hid (And.intro h (And.intro l (And.intro lm (And.intro hn hsm))))
  clear h l lm hn hsm hcv
  have HC := Lib.hid (And.intro ro (And.intro hc (And.intro hch trivial)))
  clear ro hc hch
  go_enter Tryz.func24, Tryz.ntmps24
  go_wp2_with fail
  refine (HP.out _ ((Only.refl None' w).alloc _)).mono ?_
  rintro e w2 ⟨nn, rfl, o2⟩
  have H2 := Lib.hid (H.out.1.new (((Only.refl None' w).alloc _).trans o2))
  have HKC : Hid (w2.cell? ⟨w.heap.size, 0, none⟩ = some (.int .i64 4)) := Lib.hid (by rw [o2.cell (by simp) fun e => e, World.cell?_alloc_new]; rfl)
  clear o2
  go_wp2_with fail
  refine (mfind H2.out.mi nn H.out.2.2.1.now).mono ?_
  rintro e w3 ⟨rfl, rfl⟩
  have hkc := HKC.out
  go_wp2_with fail
  refine (commit_any H2.out.sy H.out.2.1.lv.ok HC.out.1.rok H.out.2.1.dead H.out.2.1.few (by have := H.out.2.2.2.1; omega) HC.out.1.l8 HC.out.1.fit HC.out.1.now).mono ?_
  rw [HC.out.2.1]
  rintro e w4 ⟨rfl, L4, R4, F4, h4, t4⟩
  have H4 := Lib.hid (And.intro (H2.out.sys h4 t4) (And.intro t4.P t4.D))
  obtain ⟨av, cv2, hvc, _, _⟩ := H4.out.1.mi.ch.shape
  obtain ⟨cl, hcl⟩ : ∃ cl, cl = m.ch.length := ⟨_, rfl⟩
  obtain ⟨ln, hln⟩ : ∃ ln, ln = s.d.lasts.length := ⟨_, rfl⟩
  obtain ⟨ql, hql⟩ : ∃ ql, ln / 8 = ql := ⟨_, rfl⟩
  have HQ := Lib.hid (And.intro hcl (And.intro hln (And.intro hql (show ln ≤ 1000 by have := HC.out.1.few; omega))))
  have HCC : Hid (∀ w', Only None' w4 w' → w'.cell? ⟨M, 5, none⟩ = some (.slice av cl cv2)) := Lib.hid fun w' o => by
    have := (H4.out.1.mi.new o).cells.is 5 _ rfl
    rw [hvc, ← hcl] at this
    exact this
  have HLN : Hid (∀ w', Only None' w4 w' → Calls Tryz.prog 41 #[.pointer (some ⟨L.D, 0, none⟩)] w' fun e w'' => e = .returned (.int .i64 (ln : Int)) ∧ Only None' w' w'') := Lib.hid fun w' o => by
    have := len_any (h4.disk.only o fun _ _ e => e)
    rw [t4.D] at this
    rw [hln]
    exact this.mono fun e w2 h => ⟨h.1, by rw [h.2]; exact Only.refl _ _⟩
  have hbb : decide ((ql : Int) < (cl : Int)) = true := by have := HC.out.2.2.1; rw [← hln, ← hcl, hql] at this; simp; omega
  have HBB := Lib.hid hbb
  clear h4 t4 hkc hvc hcl hln hql hbb
  go_upto_region 42 with fail
  refine r_begin (S := None') (by kernel_rfl) ?_
  have HS := Lib.hid (Only.refl (None') w4)
  refine r_take 0 (.pointer (some ⟨M, 0, none⟩)) rfl (by kernel_rfl) (fun _ _ _ h => h) HS.out (YR.pure (by rfl) fun w hw => y_move w rfl rfl) ?_
  simp only [Act.put, zA, zB, zC]
  refine r_take 1 (.pointer (some ⟨M, 0, none⟩)) rfl (by kernel_rfl) (fun _ _ _ h => h) HS.out (YR.pure (by rfl) fun w hw => y_nil w rfl rfl) ?_
  simp only [Act.put, zA, zB, zC]
  refine r_take 2 (.pointer (some ⟨M, 5, none⟩)) rfl (by kernel_rfl) (fun _ _ _ h => h) HS.out (YR.pure (by rfl) fun w hw => y_f50_5 w rfl rfl) ?_
  simp only [Act.put, zA, zB, zC]
  refine r_take 3 (.slice av cl cv2) rfl (by kernel_rfl) (fun _ _ _ h => h) HS.out (YR.pure (by rfl) fun w hw => y_load28 rfl rfl (HCC.out w hw)) ?_
  simp only [Act.put, zA, zB, zC]
  refine r_take 4 (.int .i64 (cl : Int)) rfl (by kernel_rfl) (fun _ _ _ h => h) HS.out (YR.pure (by rfl) fun w hw => y_len28 rfl rfl) ?_
  simp only [Act.put, zA, zB, zC]
  refine r_take 5 (.pointer (some ⟨L.D, 0, none⟩)) rfl (by kernel_rfl) (fun _ _ _ h => h) HS.out (YR.pure (by rfl) fun w hw => y_move w rfl rfl) ?_
  simp only [Act.put, zA, zB, zC]
  refine r_take 6 (.int .i64 (ln : Int)) rfl (by kernel_rfl) (fun _ _ _ h => h) HS.out (YR.call (by rfl) (fun w => y_enter [.pointer (some ⟨L.D, 0, none⟩)] rfl (by rfl) (call41_ _) w) fun w hw => HLN.out w hw) ?_
  simp only [Act.put, zA, zB, zC]
  refine r_take 7 (.int .i64 (ql : Int)) rfl (by kernel_rfl) (fun _ _ _ h => h) HS.out (YR.pure (by rfl) fun w hw => y_quo3 w HQ.out.2.2.1 (by decide) (by have := HQ.out.2.2.2; omega) rfl rfl rfl) ?_
  simp only [Act.put, zA, zB, zC]
  refine r_take 8 (.bool true) rfl (by kernel_rfl) (fun _ _ _ h => h) HS.out (YR.pure (by rfl) fun w hw => y_gtr3 w HBB.out rfl rfl rfl) ?_
  simp only [Act.put, zA, zB, zC]
  refine r_done (by kernel_rfl) fun wz oz => ?_
  have H5 := Lib.hid (H4.out.1.new (HS.out.quiet oz))
  clear HS oz HCC HLN
  go_wp2_with fail
  go_ret3
  exact ⟨_, _, _, _, by rw [H4.out.2.1]; rfl, H5.out, H4.out.2.2⟩
set_option maxHeartbeats 2000000 in
theorem do4_root (h : Bo w0 w L R F s M v m) (l : Li s len n G K) (hn : n ≤ 400000) (lm : Lim s m) (hsm : Same s m) (st : Stp) (hk : st.kind = 4)(ro : Ro s) (hc : s.commit = (1, s)) (hch : ¬ s.d.lasts.length / 8 < m.ch.length) (hr0 : m.root ≠ 0) (hr : findP m.now m.root = -1) : Calls Tryz.prog 24 #[.pointer (some ⟨L.D, 0, none⟩), .pointer (some ⟨L.P, 0, none⟩), .pointer (some ⟨M, 0, none⟩), st.v] w (DoOut w0 L.D M s m true false) := by
  obtain ⟨kind, at_, what, odd⟩ := st
  simp only at hk ⊢
  subst hk
  have HP := Lib.hid fun w' (o : Only None' w w') => page_any (h.new o).mi ⟨4, at_, what, odd⟩ lm.now
  unfold Stp.v at HP ⊢
  obtain ⟨cv, hcv⟩ : ∃ cv, cv = (what.toNat : Int) := ⟨_, rfl⟩
  simp only [← hcv] at HP ⊢
  have HCV := Lib.hid hcv
  have H := Lib.hid (And.intro h (And.intro l (And.intro lm (And.intro hn hsm))))
  clear h l lm hn hsm hcv
  have HC := Lib.hid (And.intro ro (And.intro hc (And.intro hch (And.intro hr0 hr))))
  clear ro hc hch hr0 hr
  go_enter Tryz.func24, Tryz.ntmps24
  go_wp2_with fail
  refine (HP.out _ ((Only.refl None' w).alloc _)).mono ?_
  rintro e w2 ⟨nn, rfl, o2⟩
  have H2 := Lib.hid (H.out.1.new (((Only.refl None' w).alloc _).trans o2))
  have HKC : Hid (w2.cell? ⟨w.heap.size, 0, none⟩ = some (.int .i64 4)) := Lib.hid (by rw [o2.cell (by simp) fun e => e, World.cell?_alloc_new]; rfl)
  clear o2
  go_wp2_with fail
  refine (mfind H2.out.mi nn H.out.2.2.1.now).mono ?_
  rintro e w3 ⟨rfl, rfl⟩
  have hkc := HKC.out
  go_wp2_with fail
  refine (commit_any H2.out.sy H.out.2.1.lv.ok HC.out.1.rok H.out.2.1.dead H.out.2.1.few (by have := H.out.2.2.2.1; omega) HC.out.1.l8 HC.out.1.fit HC.out.1.now).mono ?_
  rw [HC.out.2.1]
  rintro e w4 ⟨rfl, L4, R4, F4, h4, t4⟩
  have H4 := Lib.hid (And.intro (H2.out.sys h4 t4) (And.intro t4.P t4.D))
  obtain ⟨av, cv2, hvc, _, _⟩ := H4.out.1.mi.ch.shape
  obtain ⟨cl, hcl⟩ : ∃ cl, cl = m.ch.length := ⟨_, rfl⟩
  obtain ⟨ln, hln⟩ : ∃ ln, ln = s.d.lasts.length := ⟨_, rfl⟩
  obtain ⟨ql, hql⟩ : ∃ ql, ln / 8 = ql := ⟨_, rfl⟩
  have HQ := Lib.hid (And.intro hcl (And.intro hln (And.intro hql (show ln ≤ 1000 by have := HC.out.1.few; omega))))
  have HCC : Hid (∀ w', Only None' w4 w' → w'.cell? ⟨M, 5, none⟩ = some (.slice av cl cv2)) := Lib.hid fun w' o => by
    have := (H4.out.1.mi.new o).cells.is 5 _ rfl
    rw [hvc, ← hcl] at this
    exact this
  have HLN : Hid (∀ w', Only None' w4 w' → Calls Tryz.prog 41 #[.pointer (some ⟨L.D, 0, none⟩)] w' fun e w'' => e = .returned (.int .i64 (ln : Int)) ∧ Only None' w' w'') := Lib.hid fun w' o => by
    have := len_any (h4.disk.only o fun _ _ e => e)
    rw [t4.D] at this
    rw [hln]
    exact this.mono fun e w2 h => ⟨h.1, by rw [h.2]; exact Only.refl _ _⟩
  have hbb : decide ((ql : Int) < (cl : Int)) = false := by have := HC.out.2.2.1; rw [← hln, ← hcl, hql] at this; simp; omega
  have HBB := Lib.hid hbb
  clear h4 t4 hkc hvc hcl hln hql hbb
  go_upto_region 42 with fail
  refine r_begin (S := None') (by kernel_rfl) ?_
  have HS := Lib.hid (Only.refl (None') w4)
  refine r_take 0 (.pointer (some ⟨M, 0, none⟩)) rfl (by kernel_rfl) (fun _ _ _ h => h) HS.out (YR.pure (by rfl) fun w hw => y_move w rfl rfl) ?_
  simp only [Act.put, zA, zB, zC]
  refine r_take 1 (.pointer (some ⟨M, 0, none⟩)) rfl (by kernel_rfl) (fun _ _ _ h => h) HS.out (YR.pure (by rfl) fun w hw => y_nil w rfl rfl) ?_
  simp only [Act.put, zA, zB, zC]
  refine r_take 2 (.pointer (some ⟨M, 5, none⟩)) rfl (by kernel_rfl) (fun _ _ _ h => h) HS.out (YR.pure (by rfl) fun w hw => y_f50_5 w rfl rfl) ?_
  simp only [Act.put, zA, zB, zC]
  refine r_take 3 (.slice av cl cv2) rfl (by kernel_rfl) (fun _ _ _ h => h) HS.out (YR.pure (by rfl) fun w hw => y_load28 rfl rfl (HCC.out w hw)) ?_
  simp only [Act.put, zA, zB, zC]
  refine r_take 4 (.int .i64 (cl : Int)) rfl (by kernel_rfl) (fun _ _ _ h => h) HS.out (YR.pure (by rfl) fun w hw => y_len28 rfl rfl) ?_
  simp only [Act.put, zA, zB, zC]
  refine r_take 5 (.pointer (some ⟨L.D, 0, none⟩)) rfl (by kernel_rfl) (fun _ _ _ h => h) HS.out (YR.pure (by rfl) fun w hw => y_move w rfl rfl) ?_
  simp only [Act.put, zA, zB, zC]
  refine r_take 6 (.int .i64 (ln : Int)) rfl (by kernel_rfl) (fun _ _ _ h => h) HS.out (YR.call (by rfl) (fun w => y_enter [.pointer (some ⟨L.D, 0, none⟩)] rfl (by rfl) (call41_ _) w) fun w hw => HLN.out w hw) ?_
  simp only [Act.put, zA, zB, zC]
  refine r_take 7 (.int .i64 (ql : Int)) rfl (by kernel_rfl) (fun _ _ _ h => h) HS.out (YR.pure (by rfl) fun w hw => y_quo3 w HQ.out.2.2.1 (by decide) (by have := HQ.out.2.2.2; omega) rfl rfl rfl) ?_
  simp only [Act.put, zA, zB, zC]
  refine r_take 8 (.bool false) rfl (by kernel_rfl) (fun _ _ _ h => h) HS.out (YR.pure (by rfl) fun w hw => y_gtr3 w HBB.out rfl rfl rfl) ?_
  simp only [Act.put, zA, zB, zC]
  refine r_done (by kernel_rfl) fun wz oz => ?_
  have H5 := Lib.hid (H4.out.1.new (HS.out.quiet oz))
  clear HS oz HCC HLN
  have hr0 : (m.root != 0) = true := by have := HC.out.2.2.2.1; simpa using this
  have hc3 := H5.out.mi.cells.is 3 _ rfl
  go_wp2_with fail
  refine (mfind H5.out.mi m.root H.out.2.2.1.now).mono ?_
  rw [HC.out.2.2.2.2]
  rintro e w6 ⟨rfl, rfl⟩
  clear hc3
  go_wp2_with fail
  go_ret3
  exact ⟨_, _, _, _, by rw [H4.out.2.1]; rfl, H5.out, H4.out.2.2⟩
set_option maxHeartbeats 2000000 in
theorem do4_ok (h : Bo w0 w L R F s M v m) (l : Li s len n G K) (hn : n ≤ 400000) (lm : Lim s m) (hsm : Same s m) (st : Stp) (hk : st.kind = 4)(ro : Ro s) (hc : s.commit = (0, s')) (hch : ¬ s.d.lasts.length / 8 < m.ch.length) (hr : m.root = 0 ∨ 0 ≤ findP m.now m.root) (hl' : s.d.lasts.length = s'.d.lasts.length) : Calls Tryz.prog 24 #[.pointer (some ⟨L.D, 0, none⟩), .pointer (some ⟨L.P, 0, none⟩), .pointer (some ⟨M, 0, none⟩), st.v] w (DoOut w0 L.D M s' m.commit true false) := by
  obtain ⟨kind, at_, what, odd⟩ := st
  simp only at hk ⊢
  subst hk
  have HP := Lib.hid fun w' (o : Only None' w w') => page_any (h.new o).mi ⟨4, at_, what, odd⟩ lm.now
  unfold Stp.v at HP ⊢
  obtain ⟨cv, hcv⟩ : ∃ cv, cv = (what.toNat : Int) := ⟨_, rfl⟩
  simp only [← hcv] at HP ⊢
  have HCV := Lib.hid hcv
  have H := Lib.hid (And.intro h (And.intro l (And.intro lm (And.intro hn hsm))))
  clear h l lm hn hsm hcv
  have HC := Lib.hid (And.intro ro (And.intro hc (And.intro hch (And.intro hr hl'))))
  clear ro hc hch hr hl'
  go_enter Tryz.func24, Tryz.ntmps24
  go_wp2_with fail
  refine (HP.out _ ((Only.refl None' w).alloc _)).mono ?_
  rintro e w2 ⟨nn, rfl, o2⟩
  have H2 := Lib.hid (H.out.1.new (((Only.refl None' w).alloc _).trans o2))
  have HKC : Hid (w2.cell? ⟨w.heap.size, 0, none⟩ = some (.int .i64 4)) := Lib.hid (by rw [o2.cell (by simp) fun e => e, World.cell?_alloc_new]; rfl)
  clear o2
  go_wp2_with fail
  refine (mfind H2.out.mi nn H.out.2.2.1.now).mono ?_
  rintro e w3 ⟨rfl, rfl⟩
  have hkc := HKC.out
  go_wp2_with fail
  refine (commit_any H2.out.sy H.out.2.1.lv.ok HC.out.1.rok H.out.2.1.dead H.out.2.1.few (by have := H.out.2.2.2.1; omega) HC.out.1.l8 HC.out.1.fit HC.out.1.now).mono ?_
  rw [HC.out.2.1]
  rintro e w4 ⟨rfl, L4, R4, F4, h4, t4⟩
  have H4 := Lib.hid (And.intro (H2.out.sys h4 t4) (And.intro t4.P t4.D))
  obtain ⟨av, cv2, hvc, _, _⟩ := H4.out.1.mi.ch.shape
  obtain ⟨cl, hcl⟩ : ∃ cl, cl = m.ch.length := ⟨_, rfl⟩
  obtain ⟨ln, hln⟩ : ∃ ln, ln = s.d.lasts.length := ⟨_, rfl⟩
  obtain ⟨ql, hql⟩ : ∃ ql, ln / 8 = ql := ⟨_, rfl⟩
  have HQ := Lib.hid (And.intro hcl (And.intro hln (And.intro hql (show ln ≤ 1000 by have := HC.out.1.few; omega))))
  have HCC : Hid (∀ w', Only None' w4 w' → w'.cell? ⟨M, 5, none⟩ = some (.slice av cl cv2)) := Lib.hid fun w' o => by
    have := (H4.out.1.mi.new o).cells.is 5 _ rfl
    rw [hvc, ← hcl] at this
    exact this
  have HLN : Hid (∀ w', Only None' w4 w' → Calls Tryz.prog 41 #[.pointer (some ⟨L.D, 0, none⟩)] w' fun e w'' => e = .returned (.int .i64 (ln : Int)) ∧ Only None' w' w'') := Lib.hid fun w' o => by
    have := len_any (h4.disk.only o fun _ _ e => e)
    rw [t4.D] at this
    rw [hln, HC.out.2.2.2.2]
    exact this.mono fun e w2 h => ⟨h.1, by rw [h.2]; exact Only.refl _ _⟩
  have hbb : decide ((ql : Int) < (cl : Int)) = false := by have := HC.out.2.2.1; rw [← hln, ← hcl, hql] at this; simp; omega
  have HBB := Lib.hid hbb
  clear h4 t4 hkc hvc hcl hln hql hbb
  go_upto_region 42 with fail
  refine r_begin (S := None') (by kernel_rfl) ?_
  have HS := Lib.hid (Only.refl (None') w4)
  refine r_take 0 (.pointer (some ⟨M, 0, none⟩)) rfl (by kernel_rfl) (fun _ _ _ h => h) HS.out (YR.pure (by rfl) fun w hw => y_move w rfl rfl) ?_
  simp only [Act.put, zA, zB, zC]
  refine r_take 1 (.pointer (some ⟨M, 0, none⟩)) rfl (by kernel_rfl) (fun _ _ _ h => h) HS.out (YR.pure (by rfl) fun w hw => y_nil w rfl rfl) ?_
  simp only [Act.put, zA, zB, zC]
  refine r_take 2 (.pointer (some ⟨M, 5, none⟩)) rfl (by kernel_rfl) (fun _ _ _ h => h) HS.out (YR.pure (by rfl) fun w hw => y_f50_5 w rfl rfl) ?_
  simp only [Act.put, zA, zB, zC]
  refine r_take 3 (.slice av cl cv2) rfl (by kernel_rfl) (fun _ _ _ h => h) HS.out (YR.pure (by rfl) fun w hw => y_load28 rfl rfl (HCC.out w hw)) ?_
  simp only [Act.put, zA, zB, zC]
  refine r_take 4 (.int .i64 (cl : Int)) rfl (by kernel_rfl) (fun _ _ _ h => h) HS.out (YR.pure (by rfl) fun w hw => y_len28 rfl rfl) ?_
  simp only [Act.put, zA, zB, zC]
  refine r_take 5 (.pointer (some ⟨L.D, 0, none⟩)) rfl (by kernel_rfl) (fun _ _ _ h => h) HS.out (YR.pure (by rfl) fun w hw => y_move w rfl rfl) ?_
  simp only [Act.put, zA, zB, zC]
  refine r_take 6 (.int .i64 (ln : Int)) rfl (by kernel_rfl) (fun _ _ _ h => h) HS.out (YR.call (by rfl) (fun w => y_enter [.pointer (some ⟨L.D, 0, none⟩)] rfl (by rfl) (call41_ _) w) fun w hw => HLN.out w hw) ?_
  simp only [Act.put, zA, zB, zC]
  refine r_take 7 (.int .i64 (ql : Int)) rfl (by kernel_rfl) (fun _ _ _ h => h) HS.out (YR.pure (by rfl) fun w hw => y_quo3 w HQ.out.2.2.1 (by decide) (by have := HQ.out.2.2.2; omega) rfl rfl rfl) ?_
  simp only [Act.put, zA, zB, zC]
  refine r_take 8 (.bool false) rfl (by kernel_rfl) (fun _ _ _ h => h) HS.out (YR.pure (by rfl) fun w hw => y_gtr3 w HBB.out rfl rfl rfl) ?_
  simp only [Act.put, zA, zB, zC]
  refine r_done (by kernel_rfl) fun wz oz => ?_
  have H5 := Lib.hid (H4.out.1.new (HS.out.quiet oz))
  clear HS oz HCC HLN
  have hc3 := H5.out.mi.cells.is 3 _ rfl
  have HMC := Lib.hid (mcommit H5.out.mi H.out.2.2.1.now)
  by_cases h0 : m.root = 0
  · have hr0 : (m.root != 0) = false := by simpa using h0
    clear h0
    go_wp2_with fail
    refine HMC.out.mono ?_
    rintro e w6 ⟨rfl, v6, h6, k6⟩
    have H6 := Lib.hid (H5.out.mind h6 k6)
    clear h6 k6 hc3
    go_wp2_with fail
    go_ret3
    exact ⟨_, _, _, _, by rw [H4.out.2.1]; rfl, H6.out, H4.out.2.2⟩
  · have hr0 : (m.root != 0) = true := by simpa using h0
    have hfr : ¬ findP m.now m.root < 0 := by have := HC.out.2.2.2.1.resolve_left h0; omega
    obtain ⟨fr, hfr2⟩ : ∃ fr, fr = findP m.now m.root := ⟨_, rfl⟩
    have HFD := Lib.hid (mfind H5.out.mi m.root H.out.2.2.1.now)
    rw [← hfr2] at HFD hfr
    have hfr0 : 0 ≤ fr := by omega
    clear h0 hfr2
    go_wp2_with fail
    refine HFD.out.mono ?_
    rintro e w5 ⟨rfl, rfl⟩
    go_wp2_with fail
    refine HMC.out.mono ?_
    rintro e w6 ⟨rfl, v6, h6, k6⟩
    have H6 := Lib.hid (H5.out.mind h6 k6)
    clear h6 k6 hc3
    go_wp2_with fail
    go_ret3
    exact ⟨_, _, _, _, by rw [H4.out.2.1]; rfl, H6.out, H4.out.2.2⟩
set_option maxHeartbeats 2000000 in
theorem do6_ok (h : Bo w0 w L R F s M v m) (l : Li s len n G K) (hn : n ≤ 400000) (lm : Lim s m) (hsm : Same s m) (st : Stp) (hk : st.kind = 6)(ro : Ro s) (hc : s.settle s.r.top = (0, s')) : Calls Tryz.prog 24 #[.pointer (some ⟨L.D, 0, none⟩), .pointer (some ⟨L.P, 0, none⟩), .pointer (some ⟨M, 0, none⟩), st.v] w (DoOut w0 L.D M s' m true false) := by
  obtain ⟨kind, at_, what, odd⟩ := st
  simp only at hk ⊢
  subst hk
  have HP := Lib.hid fun w' (o : Only None' w w') => page_any (h.new o).mi ⟨6, at_, what, odd⟩ lm.now
  unfold Stp.v at HP ⊢
  obtain ⟨cv, hcv⟩ : ∃ cv, cv = (what.toNat : Int) := ⟨_, rfl⟩
  simp only [← hcv] at HP ⊢
  have HCV := Lib.hid hcv
  have H := Lib.hid (And.intro h (And.intro l (And.intro lm (And.intro hn hsm))))
  clear h l lm hn hsm hcv
  have HC := Lib.hid (And.intro ro hc)
  clear ro hc
  go_enter Tryz.func24, Tryz.ntmps24
  go_wp2_with fail
  refine (HP.out _ ((Only.refl None' w).alloc _)).mono ?_
  rintro e w2 ⟨nn, rfl, o2⟩
  have H2 := Lib.hid (H.out.1.new (((Only.refl None' w).alloc _).trans o2))
  have HKC : Hid (w2.cell? ⟨w.heap.size, 0, none⟩ = some (.int .i64 6)) := Lib.hid (by rw [o2.cell (by simp) fun e => e, World.cell?_alloc_new]; rfl)
  clear o2
  go_wp2_with fail
  refine (mfind H2.out.mi nn H.out.2.2.1.now).mono ?_
  rintro e w3 ⟨rfl, rfl⟩
  have hkc := HKC.out
  go_wp2_with fail
  refine (Settle_any H2.out.sy H.out.2.1.lv.ok H.out.2.1.dead H.out.2.1.few (by have := H.out.2.2.2.1; omega) HC.out.1.l8 HC.out.1.top).mono ?_
  rw [HC.out.2]
  rintro e w4 ⟨rfl, L4, R4, F4, h4, t4⟩
  have H4 := Lib.hid (And.intro (H2.out.sys h4 t4) (And.intro t4.P t4.D))
  clear h4 t4 hkc
  go_wp2_with fail
  go_ret3
  exact ⟨_, _, _, _, by rw [H4.out.2.1]; rfl, H4.out.1, H4.out.2.2⟩
set_option maxHeartbeats 2000000 in
theorem do7_ok (h : Bo w0 w L R F s M v m) (l : Li s len n G K) (hn : n ≤ 400000) (lm : Lim s m) (hsm : Same s m) (st : Stp) (hk : ∀ q : Int, 0 ≤ q → q ≤ 6 → st.kind ≠ q)(ro : Ro s) (hc : openS s.d = (0, s')) : Calls Tryz.prog 24 #[.pointer (some ⟨L.D, 0, none⟩), .pointer (some ⟨L.P, 0, none⟩), .pointer (some ⟨M, 0, none⟩), st.v] w (DoOut w0 L.D M s' m.abort true false) := by
  obtain ⟨kind, at_, what, odd⟩ := st
  simp only at hk ⊢
  have hk0 : (kind == 0) = false := by have := hk 0 (by decide) (by decide); simpa using this
  have hk1 : (kind == 1) = false := by have := hk 1 (by decide) (by decide); simpa using this
  have hk2 : (kind == 2) = false := by have := hk 2 (by decide) (by decide); simpa using this
  have hk3 : (kind == 3) = false := by have := hk 3 (by decide) (by decide); simpa using this
  have hk4 : (kind == 4) = false := by have := hk 4 (by decide) (by decide); simpa using this
  have hk5 : (kind == 5) = false := by have := hk 5 (by decide) (by decide); simpa using this
  have hk6 : (kind == 6) = false := by have := hk 6 (by decide) (by decide); simpa using this
  clear hk
  have HP := Lib.hid fun w' (o : Only None' w w') => page_any (h.new o).mi ⟨kind, at_, what, odd⟩ lm.now
  unfold Stp.v at HP ⊢
  obtain ⟨cv, hcv⟩ : ∃ cv, cv = (what.toNat : Int) := ⟨_, rfl⟩
  simp only [← hcv] at HP ⊢
  have HCV := Lib.hid hcv
  have H := Lib.hid (And.intro h (And.intro l (And.intro lm (And.intro hn hsm))))
  clear h l lm hn hsm hcv
  have HC := Lib.hid (And.intro ro hc)
  clear ro hc
  go_enter Tryz.func24, Tryz.ntmps24
  go_wp2_with fail
  refine (HP.out _ ((Only.refl None' w).alloc _)).mono ?_
  rintro e w2 ⟨nn, rfl, o2⟩
  have H2 := Lib.hid (H.out.1.new (((Only.refl None' w).alloc _).trans o2))
  have HKC : Hid (w2.cell? ⟨w.heap.size, 0, none⟩ = some (.int .i64 kind)) := Lib.hid (by rw [o2.cell (by simp) fun e => e, World.cell?_alloc_new]; rfl)
  clear o2
  go_wp2_with fail
  refine (mfind H2.out.mi nn H.out.2.2.1.now).mono ?_
  rintro e w3 ⟨rfl, rfl⟩
  have hkc := HKC.out
  go_wp2_with fail
  refine (Open_any H2.out.sy.disk H.out.2.1.dead H.out.2.1.few (by have := H.out.2.2.2.1; omega) (by have := HC.out.1.l8; omega) HC.out.1.few).mono ?_
  intro e w4 hx
  unfold OpenRes at hx
  rw [HC.out.2] at hx
  rcases hx with ⟨h1, _⟩ | ⟨_, L4, R4, F4, rfl, h4, hD, hL, hR, hK⟩
  · exact absurd rfl h1
  have H4 := Lib.hid (And.intro (H2.out.opened h4 hL hR hK) hD)
  clear h4 hD hL hR hK hkc
  go_wp2_with fail
  refine (mabort H4.out.1.mi H.out.2.2.1.kept).mono ?_
  rintro e w6 ⟨rfl, v6, h6, k6⟩
  have H6 := Lib.hid (H4.out.1.mind h6 k6)
  clear h6 k6
  go_wp2_with fail
  go_ret3
  exact ⟨_, _, _, _, rfl, H6.out, H4.out.2⟩
end
end Go.Proofs.YteoeaojebklfjaaGreatDoor
