/- X9 Y0 Y1 in one text. -/
import Derived.Test.YteoeaojebklfjaaGreatDoorWCrashes7
import Derived.Test.YteoeaojebklfjaaGreatDoorWCrashes0
import Derived.Test.YteoeaojebklfjaaGreatDoorV00
namespace Go.Proofs.YteoeaojebklfjaaGreatDoor
open Go.RowKit Go.Maps
set_option linter.unusedVariables false
set_option linter.unusedSimpArgs false
section
variable {w0 : Fr} {w w' w1 w2 W : World} {L L' : Lo} {R R' : Nat} {F F' : Nat → Prop} {s s' : Sy} {M M' Mm Mu Mw : Nat} {v v' vm vu : Mv} {m m' x u : Mi} {len n T N D P : Nat} {G K : List Nat} {d d' e : Dk} {bm bu : Bool} {kind : Int}
theorem Up.new (h : Up W w D P len n T N Mm Mu bm bu) (o : Only None' w w') : Up W w' D P len n T N Mm Mu bm bu := by
  obtain ⟨L, R, F, s, vm, vu, m, u, h1, h2, h3, h4, h5⟩ := h
  exact ⟨L, R, F, s, vm, vu, m, u, h1, h2, h3.new o, h4.new o, h5⟩
def Gw (W w : World) (D P len n T N M : Nat) : Prop := ∃ L R F s v m, L.P = P ∧ L.D = D ∧ Bo (nf W) w L R F s M v m ∧ PlQ N s m len n T
theorem Gw.new (h : Gw W w D P len n T N M) (o : Only None' w w') : Gw W w' D P len n T N M := by
  obtain ⟨L, R, F, s, v, m, h1, h2, h3, h4⟩ := h
  exact ⟨L, R, F, s, v, m, h1, h2, h3.new o, h4⟩
theorem Gw.only (h : Gw W w D P len n T N M) : Only None' W w := by
  obtain ⟨L, R, F, s, v, m, h1, h2, h3, h4⟩ := h
  exact h3.only
theorem PlQ.li (p : PlQ N s m len n T) : ∃ G K, Li s len n G K ∧ FitP s K m := by
  obtain ⟨e, G, K, t⟩ := p
  exact ⟨G, K, ⟨t.tw.lv t.lv, t.tw.dead, t.tw.few t.calm.few⟩, t.fit⟩
theorem Gw.stands (h : Gw W w D P len n T N M) (hn : n ≤ 400000) : Calls Tryz.prog 25 #[.pointer (some ⟨P, 0, none⟩), .pointer (some ⟨M, 0, none⟩)] w fun e w' => e = .returned (.bool true) ∧ Only None' w w' := by
  obtain ⟨L, R, F, s, v, m, rfl, rfl, h3, h4⟩ := h
  obtain ⟨G, K, li, f⟩ := h4.li
  refine (stands_any h3 li hn (f.lim li.lv) f.pages).mono ?_
  rintro e w' ⟨b, rfl, hb, o⟩
  exact ⟨by rw [hb.2 f.standing], o⟩
theorem Gw.step (h : Gw W w D P len n T N M) (hN : 600 ≤ N) (hn : n ≤ 300000) (hT : T ≤ 999999000) (st : Stp) : Calls Tryz.prog 24 #[.pointer (some ⟨D, 0, none⟩), .pointer (some ⟨P, 0, none⟩), .pointer (some ⟨M, 0, none⟩), st.v] w fun e w' => ∃ P', e = .returned (.tuple #[.pointer (some ⟨P', 0, none⟩), .bool true, .bool false]) ∧ Gw W w' D P' len (n + 600) (T + 100) (N - 600) M := by
  obtain ⟨L, R, F, s, v, m, rfl, rfl, h3, h4⟩ := h
  refine (do_tw h3 h4 hn hT st).mono ?_
  rintro e w' (⟨s', m', ⟨L5, R5, F5, v5, rfl, hb, hD⟩, p⟩ | ⟨h, _⟩)
  · exact ⟨_, rfl, L5, R5, F5, s', v5, m', rfl, hD, hb, p⟩
  · omega
def Gc (W w : World) (D P len n T N M Mw : Nat) : Prop := ∃ L R F s v m vw, L.P = P ∧ L.D = D ∧ Bo (nf W) w L R F s M v m ∧ PlQ N s m len n T ∧ MindAt w Mw vw m ∧ ∀ k, mS Mw vw k → W.heap.size ≤ k ∧ ¬ allS L R F k ∧ ¬ mS M v k
theorem Gc.new (h : Gc W w D P len n T N M Mw) (o : Only None' w w') : Gc W w' D P len n T N M Mw := by
  obtain ⟨L, R, F, s, v, m, vw, h1, h2, h3, h4, h5, h6⟩ := h
  exact ⟨L, R, F, s, v, m, vw, h1, h2, h3.new o, h4, h5.new o, h6⟩
theorem Gw.copy (h : Gw W w D P len n T N M) : Calls Tryz.prog 35 #[.pointer (some ⟨M, 0, none⟩)] w fun e w' => ∃ Mw, e = .returned (.pointer (some ⟨Mw, 0, none⟩)) ∧ Gc W w' D P len n T N M Mw := by
  obtain ⟨L, R, F, s, v, m, h1, h2, h3, h4⟩ := h
  have ok := h4.okm.1
  refine (mcopy h3.mi ⟨ok.now, ok.kept, ok.ch⟩).mono ?_
  rintro e w' ⟨Mw, vw, rfl, hm, hn, o⟩
  exact ⟨Mw, rfl, L, R, F, s, v, m, vw, h1, h2, h3.new o, h4, hm, fun k hk => ⟨Nat.le_trans h3.only.size (hn k hk), fun e => by have := h3.sy.lt e; have := hn k hk; omega, fun e => by have := h3.mi.lt e; have := hn k hk; omega⟩⟩
theorem Gc.weak (h : Gc W w D P len n T N M Mw) : Gw W w D P len n T N M := by
  obtain ⟨L, R, F, s, v, m, vw, h1, h2, h3, h4, _⟩ := h
  exact ⟨L, R, F, s, v, m, h1, h2, h3, h4⟩
theorem Gw.alive (h : Gw W w D P len n T N M) : Calls Tryz.prog 32 #[.pointer (some ⟨D, 0, none⟩)] w fun e w' => e = .returned (.bool false) ∧ w = w' := by
  obtain ⟨L, R, F, s, v, m, rfl, rfl, h3, h4⟩ := h
  exact h3.dsk.isDead h4.wt.2.1
theorem Ds.isDead (h : Ds W w D len T Mm Mu d) (hd : d.dead = true) : Calls Tryz.prog 32 #[.pointer (some ⟨D, 0, none⟩)] w fun e w' => e = .returned (.bool true) ∧ w = w' := by
  obtain ⟨F, vm, vu, m, u, h1, _⟩ := h
  exact h1.isDead hd
theorem Gc.crash (h : Gc W w D P len n T N M Mw) (hn : n ≤ 900000) {kv : Value} {keep : List Bool} (hr : Rd w 1 kv keep.length (bo keep)) (hold : bo keep ≠ [] → ∀ g, kv.ownBlock = some g → g < W.heap.size) :
    Calls Tryz.prog 33 #[.pointer (some ⟨D, 0, none⟩), kv] w fun e w' => e = .returned (.int .i64 0) ∧ ∃ d, d.dead = true ∧ Ds W w' D len T M Mw d := by
  obtain ⟨L, R, F, s, v, m, vw, rfl, rfl, h3, h4, h5, h6⟩ := h
  exact end_crash h3 h4 hn h5 h6 hr hold
def Wd (W w : World) (D len T : Nat) (kind : Int) (Mw : Nat) : Prop := ∃ d F vw m, d.dead = true ∧ d.waits = [] ∧ Dsk W w D F d ∧ MindAt w Mw vw m ∧ (∀ k, mS Mw vw k → W.heap.size ≤ k ∧ ¬ F k) ∧ Okm len m ∧ Okm len m.commit ∧ (LiesM len d.lasts T m ∨ (kind = 4 ∧ LiesM len d.lasts T m.commit))
theorem Gc.step (h : Gc W w D P len n T N M Mw) (hn : n ≤ 300000) (hT : T ≤ 999999000) (st : Stp) : Calls Tryz.prog 24 #[.pointer (some ⟨D, 0, none⟩), .pointer (some ⟨P, 0, none⟩), .pointer (some ⟨M, 0, none⟩), st.v] w fun e w' => (∃ P', e = .returned (.tuple #[.pointer (some ⟨P', 0, none⟩), .bool true, .bool false]) ∧ Gw W w' D P' len (n + 600) (T + 100) (N - 600) M) ∨ (∃ y, e = .returned (.tuple #[y, .bool false, .bool true]) ∧ Wd W w' D len (T + 100) st.kind Mw) := by
  obtain ⟨L, R, F, s, v, m, vw, rfl, rfl, h3, h4, h5, h6⟩ := h
  refine (do_tw h3.look h4 hn hT st).mono ?_
  rintro e w' (⟨s', m', ⟨L5, R5, F5, v5, rfl, hb, hD⟩, p⟩ | ⟨_, d', o, h7, h8, h9⟩)
  · exact .inl ⟨_, rfl, L5, R5, F5, s', v5, m', rfl, hD, h3.back hb, p⟩
  · obtain ⟨y, F', rfl, g1, g2, g3⟩ := h3.died h5 (fun k hk => (h6 k hk).2) o
    exact .inr ⟨y, rfl, d', F', vw, m, h7, h8, g1, g2, fun k hk => ⟨(h6 k hk).1, g3 k hk⟩, h4.okm.1, h4.okm.2, h9⟩
def Wu (W w : World) (D len T : Nat) (kind : Int) (Mw Mu : Nat) : Prop := ∃ d F vw vu m, d.dead = true ∧ d.waits = [] ∧ Dsk W w D F d ∧ MindAt w Mw vw m ∧ MindAt w Mu vu m ∧ (∀ k, mS Mw vw k → W.heap.size ≤ k ∧ ¬ F k ∧ ¬ mS Mu vu k) ∧ (∀ k, mS Mu vu k → W.heap.size ≤ k ∧ ¬ F k) ∧ Okm len m ∧ Okm len m.commit ∧ (LiesM len d.lasts T m ∨ (kind = 4 ∧ LiesM len d.lasts T m.commit))
theorem Wu.only (h : Wu W w D len T kind Mw Mu) : Only None' W w := by
  obtain ⟨d, F, vw, vu, m, h1, h2, h3, _⟩ := h
  exact h3.only
theorem Wd.copy (h : Wd W w D len T kind Mw) : Calls Tryz.prog 35 #[.pointer (some ⟨Mw, 0, none⟩)] w fun e w' => ∃ Mu, e = .returned (.pointer (some ⟨Mu, 0, none⟩)) ∧ Wu W w' D len T kind Mw Mu := by
  obtain ⟨d, F, vw, m, h1, h2, h3, h4, h5, ok, ok2, hl⟩ := h
  refine (mcopy h4 ⟨ok.now, ok.kept, ok.ch⟩).mono ?_
  rintro e w' ⟨Mu, vu, rfl, hm, hn, o⟩
  exact ⟨Mu, rfl, d, F, vw, vu, m, h1, h2, h3.new o, h4.new o, hm, fun k hk => ⟨(h5 k hk).1, (h5 k hk).2, fun e => by have := hn k e; have := h4.lt hk; omega⟩, fun k hk => ⟨Nat.le_trans h3.only.size (hn k hk), h3.out (hn k hk)⟩, ok, ok2, hl⟩
theorem Wu.same (h : Wu W w D len T kind Mw Mu) (hk : kind ≠ 4) : ∃ d, d.dead = true ∧ Ds W w D len T Mw Mu d := by
  obtain ⟨d, F, vw, vu, m, h1, h2, h3, h4, h5, h6, h7, ok, ok2, hl⟩ := h
  rcases hl with hl | ⟨e, _⟩
  · exact ⟨d, h1, F, vw, vu, m, m, h3, h2, h4, h5, h6, h7, ok, ok, .inl hl⟩
  · exact absurd e hk
theorem Wu.commit (h : Wu W w D len T kind Mw Mu) : Calls Tryz.prog 36 #[.pointer (some ⟨Mu, 0, none⟩)] w fun e w' => e = .returned (.tuple #[]) ∧ ∃ d, d.dead = true ∧ Ds W w' D len T Mw Mu d := by
  obtain ⟨d, F, vw, vu, m, h1, h2, h3, h4, h5, h6, h7, ok, ok2, hl⟩ := h
  refine (mcommit h5 ok.now).mono ?_
  rintro e w' ⟨rfl, vu', hm, k⟩
  refine ⟨rfl, d, h1, F, vw, vu', m, m.commit, h3.other k (fun i hi => (h7 i hi).1) fun i hi e => (h7 i e).2 hi, h2, h4.only k.only fun i hi e => (h6 i hi).2.2 e, hm, fun i hi => ⟨(h6 i hi).1, (h6 i hi).2.1, fun e => ?_⟩, fun i hi => ?_, ok, ok2, ?_⟩
  · rcases k.fresh i e with e2 | e2
    · exact (h6 i hi).2.2 e2
    · have := h4.lt hi; omega
  · rcases k.fresh i hi with e2 | e2
    · exact h7 i e2
    · exact ⟨Nat.le_trans h3.only.size e2, h3.out e2⟩
  · rcases hl with hl | ⟨_, hl⟩
    · exact .inl hl
    · exact .inr hl
theorem Up.fuse (h : Up W w D P len n T N Mm Mu bm bu) : Calls Tryz.prog 31 #[.pointer (some ⟨D, 0, none⟩), .int .i64 1073741824, .slice none 0 0] w fun e w' => e = .returned (.int .i64 0) ∧ Up W w' D P len n T 1073741824 Mm Mu bm bu := by
  obtain ⟨L, R, F, s, vm, vu, m, u, rfl, rfl, b1, b2, h5, h6, h7, h8, h9, e, K, t, lv, lg, hc, hw, k1, k2, ff⟩ := h
  refine (fuse_any b1.sy.disk t.dead 1073741824 (v := .slice none 0 0) (n := 0) (keep := []) (Vec.nil _ _).rd (by decide)).mono ?_
  rintro r w' ⟨rfl, F', hd, k⟩
  obtain ⟨hs, tt⟩ := b1.sy.redisk hd k
  have tw' : Tw 1073741824 (s.d.fused 1073741824 []) e := ⟨t.lasts, t.waits, t.done, t.dead, fun _ => Int.le_refl _, by
    have h1 := hc.few.done0
    have h2 := t.done
    show -s.d.done ≤ (1073741824 : Int)
    omega, by show (1073741824 : Int) ≤ 9223372036854775807; decide, Nat.zero_le _, t.ed, t.es⟩
  exact ⟨rfl, L, R, F', ⟨s.p, s.r, s.d.fused 1073741824 []⟩, vm, vu, m, u, rfl, rfl, b1.sys hs tt, b2.sys hs tt, h5, h6, h7, h8, h9, e, K, tw', lv, lg, hc, hw, k1, k2, ff.imp (fun f => (Tw.fit (s := ⟨s.p, s.r, s.d.fused 1073741824 []⟩) tw').2 (t.fit.1 f)) fun f => (Tw.fit (s := ⟨s.p, s.r, s.d.fused 1073741824 []⟩) tw').2 (t.fit.1 f)⟩
theorem Up.abortM (h : Up W w D P len n T N Mm Mu bm bu) : Calls Tryz.prog 37 #[.pointer (some ⟨Mm, 0, none⟩)] w fun e w' => e = .returned (.tuple #[]) ∧ Up W w' D P len n T N Mm Mu true bu := by
  obtain ⟨L, R, F, s, vm, vu, m, u, h1, h2, b1, b2, h5, h6, h7, h8, h9, pl⟩ := h
  refine (mabort b1.mi h6.kept).mono ?_
  rintro e w' ⟨rfl, v', hm, k⟩
  refine ⟨rfl, L, R, F, s, v', vu, m.abort, u, h1, h2, b1.mind hm k, b2.aside k.only fun i hi => ⟨b1.nm i hi, b1.ap i hi, h5 i hi⟩, fun i hi e => ?_, h6.abort, h7, fun _ => rfl, h9, pl⟩
  rcases k.fresh i hi with e2 | e2
  · exact h5 i e2 e
  · have := b2.mi.lt e; omega
theorem Up.abortU (h : Up W w D P len n T N Mm Mu bm bu) : Calls Tryz.prog 37 #[.pointer (some ⟨Mu, 0, none⟩)] w fun e w' => e = .returned (.tuple #[]) ∧ Up W w' D P len n T N Mm Mu bm true := by
  obtain ⟨L, R, F, s, vm, vu, m, u, h1, h2, b1, b2, h5, h6, h7, h8, h9, pl⟩ := h
  refine (mabort b2.mi h7.kept).mono ?_
  rintro e w' ⟨rfl, v', hm, k⟩
  refine ⟨rfl, L, R, F, s, vm, v', m, u.abort, h1, h2, b1.aside k.only fun i hi => ⟨b2.nm i hi, b2.ap i hi, fun e => h5 i e hi⟩, b2.mind hm k, fun i hi e => ?_, h6, h7.abort, h8, fun _ => rfl, pl⟩
  rcases k.fresh i e with e2 | e2
  · exact h5 i hi e2
  · have := b1.mi.lt hi; omega
theorem Up.stands (h : Up W w D P len n T N Mm Mu true true) (hn : n ≤ 400000) : Calls Tryz.prog 25 #[.pointer (some ⟨P, 0, none⟩), .pointer (some ⟨Mm, 0, none⟩)] w fun e w' => ∃ b, e = .returned (.bool b) ∧ Only None' W w' ∧ (b = true → Gw W w' D P len n T N Mm) ∧ (b = false → Gw W w' D P len n T N Mu) := by
  obtain ⟨L, R, F, s, vm, vu, m, u, rfl, rfl, b1, b2, h5, h6, h7, h8, h9, e, K, t, lv, ⟨b, gb, hb⟩, hc, hw, k1, k2, ff⟩ := h
  have hm := h8 rfl
  have hu := h9 rfl
  have lr := t.lv lv
  have li : Li s len n K K := ⟨lr, t.dead, t.few hc.few⟩
  have hpg : m.pages = (s.p.pages : Int) := by rw [h6.pg, lr.pages]
  have hfw := lr.few
  have lm : Lim s m := ⟨h6.now, h6.kept, h6.ch, by rw [hpg]; omega⟩
  have hcv : s.p.comm s.d = s.p.view s.d := by rw [t.comm, t.view]; exact k2
  refine (stands_any b1 li hn lm hpg).mono ?_
  rintro r w' ⟨bb, rfl, hbb, o⟩
  refine ⟨bb, rfl, b1.only.trans o, fun hb1 => ?_, fun hb1 => ?_⟩
  · have st := hbb.1 hb1
    have f : FitP s K m := by
      rcases ff with f | f
      · rw [hm] at f; exact f
      · have := FitP.other (e := e) (x := m) f lr k1 hcv (by rw [hm]; exact st) h6.nd (by rw [h6.pg, h7.pg])
        rw [hm] at this; exact this
    exact ⟨L, R, F, s, vm, m, rfl, rfl, b1.new o, e, K, K, t, lv, ⟨b, [], gb, by rw [many_nil]; omega⟩, hc, hw, f⟩
  · have f : FitP s K u := by
      rcases ff with f | f
      · rw [hm] at f
        have := hbb.2 f.standing
        rw [hb1] at this; cases this
      · rw [hu] at f; exact f
    exact ⟨L, R, F, s, vu, u, rfl, rfl, b2.new o, e, K, K, t, lv, ⟨b, [], gb, by rw [many_nil]; omega⟩, hc, hw, f⟩
end
end Go.Proofs.YteoeaojebklfjaaGreatDoor
namespace Go.Proofs.YteoeaojebklfjaaGreatDoor
open Go.RowKit Go.Maps
set_option linter.unusedVariables false
set_option linter.unusedSimpArgs false
set_option maxRecDepth 20000
theorem mod300 (x : Int) : ∃ k : Nat, wrap64 ((IntKind.u64.wrap x).tmod 300) = (k : Int) ∧ k < 300 := by
  obtain ⟨m, h1, h2⟩ := mod_is x 300 (by decide) (by decide)
  exact ⟨m, h1, by omega⟩
theorem mod60 (x : Int) : ∃ k : Nat, wrap64 ((IntKind.u64.wrap x).tmod 60) = (k : Int) ∧ k < 60 := by
  obtain ⟨m, h1, h2⟩ := mod_is x 60 (by decide) (by decide)
  exact ⟨m, h1, by omega⟩
theorem fused_pw {W w : World} {L : Lo} {R : Nat} {F : Nat → Prop} {sec : Nat} (h : Pw W w L R F (formatS sec) sec 4 0 [] []) (h64 : 64 ≤ sec) (h363 : sec ≤ 363) (k : Nat) (hk : k ≤ 1000) {kv : Value} {keep : List Bool} (hr : Rd w 1 kv keep.length (bo keep)) (hkl : keep.length ≤ 140737488351232) :
    Calls Tryz.prog 31 #[.pointer (some ⟨L.D, 0, none⟩), .int .i64 (k : Int), kv] w fun e w' => e = .returned (.int .i64 0) ∧ Only None' W w' ∧ Gw W (w'.alloc (.cells #[.int .i64 ((sec : Int) - 1 - (sec : Int) / 4), .slice none 0 0, .slice none 0 0, .int .i64 0, .int .i64 0, .slice none 0 0] 50)) L.D L.P sec 4 0 0 w'.heap.size := by
  obtain ⟨_, _, _, hw0, _⟩ := format_lv h64 (by omega)
  refine (fuse_any h.at_.disk h.calm.dead k hr hkl).mono ?_
  rintro e w2 ⟨rfl, F', hd, kp⟩
  obtain ⟨hs, tt⟩ := h.at_.redisk hd kp
  have ho : Only None' W w2 := h.only.trans2 tt.only fun i hi e => by have := h.new i e; omega
  have hse : (sec : Int) - 1 - (sec : Int) / 4 = ((sec - 1 - sec / 4 : Nat) : Int) := by omega
  have hns : ∀ i, allS L R F' i → W.heap.size ≤ i := fun i hi => by
    rcases tt.kept.fresh i hi with e | e
    · exact h.new i e
    · have := h.only.size; omega
  refine ⟨rfl, ho, L, R, F', ⟨(formatS sec).p, (formatS sec).r, (formatS sec).d.fused k keep⟩, ⟨.slice none 0 0, .slice none 0 0, .slice none 0 0⟩, mind0 (sec - 1 - sec / 4), rfl, rfl, ?_, ?_⟩
  · rw [hse]
    refine ⟨hs.new ((Only.refl None' w2).alloc _), mind0_at w2 _, fun k hk e => ?_, fun k hk => .inl (hns k hk), fun k hk => ?_, ho.trans ((Only.refl None' w2).alloc _)⟩
    · have := hs.lt e
      rcases hk with rfl | e | e | e
      · omega
      · cases e
      · cases e
      · cases e
    · rcases hk with rfl | e | e | e
      · exact .inl ho.size
      · cases e
      · cases e
      · cases e
  · have tw : Tw 0 ((formatS sec).d.fused k keep) (formatS sec).d := ⟨rfl, rfl, rfl, h.calm.dead, fun _ => by show ((0 : Nat) : Int) ≤ (k : Int); omega, by
      have := h.calm.few.done0
      show -(formatS sec).d.done ≤ (k : Int)
      omega, by show (k : Int) ≤ _; omega, hkl, h.calm.dead, h.calm.set⟩
    exact ⟨(formatS sec).d, [], [], tw, h.lv, h.lg, h.calm, hw0, (Tw.fit (s := ⟨(formatS sec).p, (formatS sec).r, (formatS sec).d.fused k keep⟩) tw).2 (fit0 h64 (by omega))⟩
theorem Gw.upto {W w : World} {D P len n n' T T' N M : Nat} (h : Gw W w D P len n T N M) (hn : n ≤ n') (hT : T ≤ T') : Gw W w D P len n' T' N M := by
  obtain ⟨L, R, F, s, v, m, h1, h2, h3, e, G, K, t⟩ := h
  obtain ⟨b, rs, g, hb⟩ := t.lg
  exact ⟨L, R, F, s, v, m, h1, h2, h3, e, G, K, t.tw, t.lv, ⟨b, rs, g, by omega⟩, ⟨t.calm.dead, t.calm.set, t.calm.len, t.calm.few.mono hn⟩, t.wt, t.fit⟩
theorem Up.less {W w : World} {D P len n T N N' Mm Mu : Nat} {bm bu : Bool} (h : Up W w D P len n T N Mm Mu bm bu) (hN : N' ≤ N) : Up W w D P len n T N' Mm Mu bm bu := by
  obtain ⟨L, R, F, s, vm, vu, m, u, h1, h2, h3, h4, h5, h6, h7, h8, h9, e, K, t, x⟩ := h
  exact ⟨L, R, F, s, vm, vu, m, u, h1, h2, h3, h4, h5, h6, h7, h8, h9, e, K, t.less hN, x⟩
theorem Ds.calm {W w : World} {D len T Mm Mu : Nat} {d d0 : Dk} (h : Ds W w D len T Mm Mu d) (hl : d.lasts = d0.lasts) : d0.reopened.Calm len 0 := by
  obtain ⟨F, vm, vu, m, u, q1, q2, q3, q4, q5, q6, q7, q8, q9⟩ := h
  refine ⟨rfl, rfl, ?_, Dk.Few.reopened⟩
  show d0.lasts.length = len
  rw [← hl]
  rcases q9 with ⟨_, _, _, ⟨_, _, _, o, _⟩, _⟩ | ⟨_, _, _, ⟨_, _, _, o, _⟩, _⟩ <;> exact o.ln
theorem Ds.open1 {W w : World} {D len T Mm Mu k : Nat} {d : Dk} {keep : List Bool} (h : Ds W w D len T Mm Mu (d.reopened.fused k keep)) (hk : k ≤ 1000) (hkl : keep.length ≤ 140737488351232) (h64 : 64 ≤ len) (h400 : len ≤ 400) (hT : T ≤ 1000000000) : Calls Tryz.prog 17 #[.pointer (some ⟨D, 0, none⟩)] w fun r w' =>
    (∃ P, r = .returned (.tuple #[.pointer (some ⟨P, 0, none⟩), .int .i64 0]) ∧ Up W w' D P len 403 T 0 Mm Mu false false) ∨
    (r = .returned (.tuple #[.pointer none, .int .i64 20]) ∧ ∃ d', d'.dead = true ∧ Ds W w' D len T Mm Mu d') := by
  have tw : Tw 0 (d.reopened.fused k keep) d.reopened := ⟨rfl, rfl, rfl, rfl, fun _ => by show ((0 : Nat) : Int) ≤ (k : Int); omega, by show -(0 : Int) ≤ (k : Int); omega, by show (k : Int) ≤ _; omega, hkl, rfl, rfl⟩
  refine (h.open_ tw (h.calm rfl) (by decide) h64 h400 hT).mono ?_
  rintro r w' (⟨P, a, b⟩ | ⟨_, a, b⟩)
  · exact .inl ⟨P, a, b⟩
  · exact .inr ⟨a, b⟩
theorem Ds.open2 {W w : World} {D len T Mm Mu : Nat} {d : Dk} (h : Ds W w D len T Mm Mu d.reopened) (h64 : 64 ≤ len) (h400 : len ≤ 400) (hT : T ≤ 1000000000) : Calls Tryz.prog 17 #[.pointer (some ⟨D, 0, none⟩)] w fun r w' => ∃ P, r = .returned (.tuple #[.pointer (some ⟨P, 0, none⟩), .int .i64 0]) ∧ Up W w' D P len 403 T 0 Mm Mu false false := by
  have tw : Tw 1000 d.reopened d.reopened := ⟨rfl, rfl, rfl, rfl, (fun e => by cases e), by show -(0 : Int) ≤ (0 : Int); omega, by show (0 : Int) ≤ _; omega, Nat.zero_le _, rfl, rfl⟩
  refine (h.open_ tw (h.calm rfl) (by decide) h64 h400 hT).mono ?_
  rintro r w' (⟨P, a, b⟩ | ⟨a, _⟩)
  · exact ⟨P, a, b.less (Nat.zero_le _)⟩
  · omega
theorem Ds.again {W w : World} {D len T Mm Mu : Nat} {d : Dk} (h : Ds W w D len T Mm Mu d) (hd : d.dead = true) : Calls Tryz.prog 34 #[.pointer (some ⟨D, 0, none⟩)] w fun e w' => ∃ D', e = .returned (.tuple #[.pointer (some ⟨D', 0, none⟩), .int .i64 0]) ∧ Ds W w' D' len T Mm Mu d.reopened := h.reopen hd
set_option maxHeartbeats 8000000 in
theorem crashes_main (x0 x3 x4 : Int) (a1 a2 : Option Addr) (n1 c1 n2 c2 : Nat) (l1 l2 : List Stp) (v5 v6 : Value) (keep again : List Bool) (w : World) (rd1 : Rd w 4 (.slice a1 n1 c1) l1.length (srow l1)) (rd2 : Rd w 4 (.slice a2 n2 c2) l2.length (srow l2)) (rd5 : Rd w 1 v5 keep.length (bo keep)) (rd6 : Rd w 1 v6 again.length (bo again)) (hk5 : keep.length ≤ 140737488351232) (hk6 : again.length ≤ 140737488351232) (h1 : n1 ≤ 150) (h2 : n2 ≤ 150) : Calls Tryz.prog 8 #[.int .i64 x0, .slice a1 n1 c1, .slice a2 n2 c2, .int .i64 x3, .int .i64 x4, v5, v6] w fun e w' => e = .returned (.bool true) ∧ Only None' w w' := by
  have HLN : Hid (l1.length = n1 ∧ n1 ≤ 150 ∧ l2.length = n2 ∧ n2 ≤ 150) := Lib.hid ⟨by
    obtain ⟨a', c', e⟩ := rd1.shape
    injection e with _ e _
    exact e.symm, h1, by
    obtain ⟨a', c', e⟩ := rd2.shape
    injection e with _ e _
    exact e.symm, h2⟩
  obtain ⟨sec, hsec, hs1, hs2⟩ := sectors_is x0
  obtain ⟨fu, hfu, hfu2⟩ := mod300 x3
  obtain ⟨se, hse, hse2⟩ := mod60 x4
  have RD1 : Hid (∀ w', Only None' w w' → Rd w' 4 (.slice a1 n1 c1) l1.length (srow l1)) := Lib.hid fun w' o => rd1.only o fun _ _ _ _ e => e
  have RD2 : Hid (∀ w', Only None' w w' → Rd w' 4 (.slice a2 n2 c2) l2.length (srow l2)) := Lib.hid fun w' o => rd2.only o fun _ _ _ _ e => e
  have RD5 : Hid (∀ w', Only None' w w' → Rd w' 1 v5 keep.length (bo keep)) := Lib.hid fun w' o => rd5.only o fun _ _ _ _ e => e
  have RD6 : Hid (∀ w', Only None' w w' → Rd w' 1 v6 again.length (bo again)) := Lib.hid fun w' o => rd6.only o fun _ _ _ _ e => e
  have HKP : Hid (keep.length ≤ 140737488351232 ∧ again.length ≤ 140737488351232 ∧ (bo keep ≠ [] → ∀ g, v5.ownBlock = some g → g < w.heap.size)) := Lib.hid ⟨hk5, hk6, fun hx g hg => rd5.lt hx hg⟩
  clear rd1 rd2 rd5 rd6 hk5 hk6
  go_enter Tryz.func8, Tryz.ntmps8
  go_wp2_with fail
  refine (long_no a1 n1 c1 w h1).mono ?_
  rintro e w1 ⟨rfl, rfl⟩
  go_wp2_with fail
  refine (long_no a2 n2 c2 w h2).mono ?_
  rintro e w1 ⟨rfl, rfl⟩
  go_wp2_with fail
  simp only [hsec]
  refine (fresh_any sec (sec : Int) rfl hs1 (by omega) w).mono ?_
  rintro e w2 ⟨L, R, F, rfl, hp⟩
  have HFU := Lib.hid (fused_pw hp hs1 hs2 fu (by omega) (RD5.out w2 hp.only) HKP.out.1)
  have s0 : (64 : Int) ≤ (sec : Int) := by omega
  have s1 : (sec : Int) ≤ 363 := by omega
  have HS := Lib.hid (And.intro hs1 (And.intro hs2 (show se ≤ 1000 by omega)))
  clear hp hsec hs1 hs2 h1 h2 hfu2 hse2
  go_wp2_with fail
  simp only [hfu]
  refine HFU.out.mono ?_
  rintro e w3 ⟨rfl, o3, hg3⟩
  have HG := Lib.hid hg3
  clear o3 hg3 HFU hfu
  go_wp2_with fail
  refine HG.out.copy.mono ?_
  rintro e w4 ⟨M0, rfl, hg4⟩
  have HG4 := Lib.hid hg4.weak
  clear hg4 HG
  have HSE := Lib.hid hse
  clear hse
  go_upto_block 0 with fail
  go_cut [16, 17, 18, 19, 20, 21, 22, 23] from 70 to 109 (fun u16 u17 u18 u19 u20 u21 u22 u23 wx => ∃ Mm, u17 = .pointer (some ⟨Mm, 0, none⟩) ∧ Hid ((∃ P, Gw w wx L.D P sec 100000 20000 0 Mm) ∨ (∃ Mu d, u18 = .pointer (some ⟨Mu, 0, none⟩) ∧ d.dead = true ∧ Ds w wx L.D sec 20000 Mm Mu d)))
  case first =>
    go_wp2_with fail
    go_loopg [16, 17, 19] n1 (fun gg pv mv t wr => ∃ (i P : Nat), gg = n1 - i ∧ i ≤ n1 ∧ t = .int .i64 (i : Int) ∧ pv = .pointer (some ⟨P, 0, none⟩) ∧ mv = .pointer (some ⟨w3.heap.size, 0, none⟩) ∧ Hid (Gw w wr L.D P sec (4 + 600 * i) (100 * i) 0 w3.heap.size))
    case atStart => exact ⟨0, L.P, rfl, Nat.zero_le _, rfl, rfl, rfl, HG4⟩
    case round =>
      clear HG4
      obtain ⟨i, P, rfl, hi, rfl, rfl, rfl, HA⟩ := hrel
      rename World => wr
      by_cases hlt : i < n1
      · have hil : i < l1.length := by have := HLN.out.1; omega
        obtain ⟨st, hst⟩ : ∃ st, l1[i]? = some st := ⟨_, List.getElem?_eq_getElem hil⟩
        have HST := Lib.hid hst
        have i0 : (0 : Int) ≤ (i : Int) := by omega
        have i1 : (i : Int) < (n1 : Int) := by omega
        have d1 : decide ((i : Int) < (n1 : Int)) = true := decide_eq_true i1
        have HI := Lib.hid (And.intro hlt HLN.out.2.1)
        clear hlt hil hst hi
        go_wp2_with fail
        refine HA.out.alive.mono ?_
        rintro e w5 ⟨rfl, rfl⟩
        go_wp2_with fail
        refine HA.out.copy.mono ?_
        rintro e w5 ⟨Mw, rfl, hgc⟩
        have HC := Lib.hid hgc
        obtain ⟨g, off, rfl, _, c0, c1, c2, c3⟩ := srow_cells (RD1.out w5 hgc.weak.only) HST.out
        have c1' : w5.cell? ⟨g, off + i * 4 + 1, none⟩ = some (.int .i64 st.at_) := c1
        have c2' : w5.cell? ⟨g, off + i * 4 + 2, none⟩ = some (.int .u8 (st.what.toNat : Int)) := c2
        have c3' : w5.cell? ⟨g, off + i * 4 + 3, none⟩ = some (.bool st.odd) := c3
        clear hgc c1 c2 c3 d1
        go_wp2_with fail
        refine (HC.out.step (by have := HI.out; omega) (by have := HI.out; omega) st).mono ?_
        clear c0 c1' c2' c3'
        rintro e w6 (⟨P', rfl, hg6⟩ | ⟨y, rfl, hd6⟩)
        · have HG6 := Lib.hid hg6
          clear hg6
          go_wp2_with fail
          go_roundg (n1 - (i + 1))
          case rel => exact ⟨i + 1, P', rfl, HI.out.1, by first | exact next_int (by have := HI.out.2; have := HI.out.1; omega) | rfl | (congr 1), rfl, rfl, HG6⟩
          case measure => have := HI.out.1; omega
        · have HD6 := Lib.hid hd6
          clear hd6
          go_wp2_with fail
          refine HD6.out.copy.mono ?_
          rintro e w7 ⟨Mu, rfl, hwu⟩
          obtain ⟨g', off', e, _, c0, _, _, _⟩ := srow_cells (RD1.out w7 hwu.only) HST.out
          injection e with e
          injection e with e1 e2
          subst e1; subst e2
          have HWU := Lib.hid hwu
          clear hwu HD6 HC HA
          by_cases hk : st.kind = 4
          · have k4 : (st.kind == 4) = true := by simpa using hk
            clear hk
            go_wp2_with fail
            refine HWU.out.commit.mono ?_
            rintro e w8 ⟨rfl, d8, hd8, hs8⟩
            have HD8 := Lib.hid (And.intro hd8 hs8)
            clear c0 hd8 hs8 HWU
            go_wp2_with fail
            go_meet
            case rel => exact ⟨Mw, rfl, Lib.hid (.inr ⟨Mu, d8, rfl, HD8.out.1, by
              obtain ⟨F, vm, vu, m, u, q1, q2, q3, q4, q5, q6, q7, q8, q9⟩ := HD8.out.2
              have hi := HI.out
              exact ⟨F, vm, vu, m, u, q1, q2, q3, q4, q5, q6, q7, q8, q9.imp (fun x => x.upto (by omega)) fun x => x.upto (by omega)⟩⟩)⟩
          · have k4 : (st.kind == 4) = false := by simpa using hk
            have HD8 := Lib.hid (HWU.out.same hk)
            clear hk HWU
            go_wp2_with fail
            go_meet
            case rel =>
              obtain ⟨d8, hd8, F, vm, vu, m, u, q1, q2, q3, q4, q5, q6, q7, q8, q9⟩ := HD8.out
              have hi := HI.out
              exact ⟨Mw, rfl, Lib.hid (.inr ⟨Mu, d8, rfl, hd8, F, vm, vu, m, u, q1, q2, q3, q4, q5, q6, q7, q8, q9.imp (fun x => x.upto (by omega)) fun x => x.upto (by omega)⟩)⟩
      · have i1 : ¬ (i : Int) < (n1 : Int) := by omega
        have d1 : decide ((i : Int) < (n1 : Int)) = false := decide_eq_false (by omega)
        have HI := Lib.hid (And.intro hi HLN.out.2.1)
        clear hlt hi
        go_wp2_with fail
        go_meet
        case rel =>
          have hi := HI.out
          exact ⟨_, rfl, Lib.hid (.inl ⟨P, HA.out.upto (by omega) (by omega)⟩)⟩
  case rest =>
    clear HG4
    obtain ⟨Mm, rfl, HCUT⟩ := hcut
    rename World => wc
    go_upto_region 22 with fail
    go_cut [112] from 110 to 111 (fun u112 wx => ∃ b, u112 = .bool b ∧ Hid ((b = true ∧ ∃ P, Gw w wx L.D P sec 100000 20000 0 Mm) ∨ (b = false ∧ ∃ Mu d, u18 = .pointer (some ⟨Mu, 0, none⟩) ∧ d.dead = true ∧ Ds w wx L.D sec 20000 Mm Mu d)))
    case first =>
      rcases HCUT.out with ⟨P, hg⟩ | ⟨Mu, d, rfl, hd, hs⟩
      · have HG5 := Lib.hid hg
        clear hg HCUT
        go_wp2_with fail
        refine HG5.out.alive.mono ?_
        rintro e w5 ⟨rfl, rfl⟩
        go_wp2_with fail
        go_meet
        case rel => exact ⟨true, rfl, Lib.hid (.inl ⟨rfl, P, HG5.out⟩)⟩
      · have HD := Lib.hid (And.intro hd hs)
        clear hd hs HCUT
        go_wp2_with fail
        refine (HD.out.2.isDead HD.out.1).mono ?_
        rintro e w5 ⟨rfl, rfl⟩
        go_wp2_with fail
        go_meet
        case rel => exact ⟨false, rfl, Lib.hid (.inr ⟨rfl, Mu, d, rfl, HD.out⟩)⟩
    case rest =>
    clear HCUT
    obtain ⟨bd, rfl, HCUT⟩ := hcut
    rename World => wc2
    go_upto_if 112 with fail
    go_cut [18] from 113 to 118 (fun u18 wx => ∃ Mu d, u18 = .pointer (some ⟨Mu, 0, none⟩) ∧ Hid (d.dead = true ∧ Ds w wx L.D sec 20000 Mm Mu d))
    case first =>
      rcases HCUT.out with ⟨rfl, P, hg⟩ | ⟨rfl, Mu, d, rfl, hd, hs⟩
      · have HG5 := Lib.hid hg
        clear hg HCUT
        go_wp2_with fail
        refine HG5.out.copy.mono ?_
        rintro e w5 ⟨Mu, rfl, hgc⟩
        have HC := Lib.hid (hgc.crash (by decide) (RD5.out w5 hgc.weak.only) HKP.out.2.2)
        clear hgc HG5
        go_wp2_with fail
        refine HC.out.mono ?_
        rintro e w6 ⟨rfl, d, hd, hs⟩
        have HD := Lib.hid (And.intro hd hs)
        clear hd hs HC
        go_wp2_with fail
        go_meet
        case rel => exact ⟨Mu, d, rfl, HD⟩
      · have HD := Lib.hid (And.intro hd hs)
        clear hd hs HCUT
        go_wp2_with fail
        go_meet
        case rel => exact ⟨Mu, d, rfl, HD⟩
    case rest =>
      clear HCUT
      obtain ⟨Mu, d, rfl, HD⟩ := hcut
      rename World => wd
      go_wp2_with fail
      refine (HD.out.2.reopen HD.out.1).mono ?_
      rintro e w5 ⟨D1, rfl, hs⟩
      have HF := Lib.hid (hs.fuse rfl (k := se) rfl (RD6.out w5 hs.only) HKP.out.2.1)
      clear hs
      go_wp2_with fail
      simp only [HSE.out]
      refine HF.out.mono ?_
      rintro e w6 ⟨rfl, hs6⟩
      have HD6 := Lib.hid hs6
      clear hs6 HF
      clear HD
      go_upto_region 29 with fail
      go_cut [25, 26] from 136 to 140 (fun u25 u26 wx => ∃ c : Int, u25 = .int .i64 c ∧ Hid ((c = 0 ∧ ∃ P, u26 = .pointer (some ⟨P, 0, none⟩) ∧ Up w wx D1 P sec 403 20000 0 Mm Mu false false) ∨ (c = 20 ∧ ∃ d', d'.dead = true ∧ Ds w wx D1 sec 20000 Mm Mu d')))
      case first =>
        have HO := Lib.hid (HD6.out.open1 (by have := HS.out; omega) HKP.out.2.1 HS.out.1 (by have := HS.out; omega) (by decide))
        go_wp2_with fail
        refine HO.out.mono ?_
        rintro e w7 (⟨P, rfl, hu⟩ | ⟨rfl, d', hd, hs⟩)
        · have HU := Lib.hid hu
          clear hu HO
          go_wp2_with fail
          go_meet
          case rel => exact ⟨0, rfl, Lib.hid (.inl ⟨rfl, P, rfl, HU.out⟩)⟩
        · have HD := Lib.hid (And.intro hd hs)
          clear hd hs HO
          go_wp2_with fail
          go_meet
          case rel => exact ⟨20, rfl, Lib.hid (.inr ⟨rfl, d', HD.out⟩)⟩
      case rest =>
      clear HD6
      obtain ⟨c, rfl, HCUT⟩ := hcut
      rename World => we
      go_upto_if 142 with fail
      go_cut [24, 25, 26, 27, 28] from 143 to 155 (fun u24 u25 u26 u27 u28 wx => ∃ D2 P, u24 = .pointer (some ⟨D2, 0, none⟩) ∧ u25 = .int .i64 0 ∧ u26 = .pointer (some ⟨P, 0, none⟩) ∧ Hid (Up w wx D2 P sec 403 20000 0 Mm Mu false false))
      case first =>
        rcases HCUT.out with ⟨rfl, P, rfl, hu⟩ | ⟨rfl, d', hd, hs⟩
        · have HU := Lib.hid hu
          clear hu HCUT
          go_wp2_with fail
          go_meet
          case rel => exact ⟨D1, P, rfl, rfl, rfl, HU⟩
        · have HD := Lib.hid (And.intro hd hs)
          clear hd hs HCUT
          go_wp2_with fail
          refine (HD.out.2.again HD.out.1).mono ?_
          rintro e w7 ⟨D2, rfl, hs⟩
          have HO := Lib.hid (hs.open2 HS.out.1 (by have := HS.out; omega) (by decide))
          clear hs HD
          go_wp2_with fail
          refine HO.out.mono ?_
          rintro e w8 ⟨P, rfl, hu⟩
          have HU := Lib.hid hu
          clear hu HO
          go_wp2_with fail
          go_meet
          case rel => exact ⟨D2, P, rfl, rfl, rfl, HU⟩
      case rest =>
      clear HCUT
      obtain ⟨D2, P, rfl, rfl, rfl, HU⟩ := hcut
      rename World => wf
      go_wp2_with fail
      refine HU.out.fuse.mono ?_
      rintro e w7 ⟨rfl, hu⟩
      have HU7 := Lib.hid hu
      clear hu HU
      go_wp2_with fail
      refine HU7.out.abortM.mono ?_
      rintro e w8 ⟨rfl, hu⟩
      have HU8 := Lib.hid hu
      clear hu HU7
      go_wp2_with fail
      refine HU8.out.abortU.mono ?_
      rintro e w9 ⟨rfl, hu⟩
      have HU9 := Lib.hid hu
      clear hu HU8
      go_upto_region 42 with fail
      go_cut [168] from 165 to 168 (fun u168 wx => ∃ b, u168 = .bool b ∧ Hid ((b = false ∧ Gw w wx D2 P sec 403 20000 1073741824 Mm) ∨ (b = true ∧ Gw w wx D2 P sec 403 20000 1073741824 Mu)))
      case first =>
        have HO := Lib.hid (HU9.out.stands (by decide))
        go_wp2_with fail
        refine HO.out.mono ?_
        rintro e wa ⟨b, rfl, _, ht, hf⟩
        have HB := Lib.hid (And.intro ht hf)
        clear ht hf HO
        cases b with
        | true =>
          go_wp2_with fail
          go_meet
          case rel => exact ⟨false, rfl, Lib.hid (.inl ⟨rfl, HB.out.1 trivial⟩)⟩
        | false =>
          go_wp2_with fail
          go_meet
          case rel => exact ⟨true, rfl, Lib.hid (.inr ⟨rfl, HB.out.2 trivial⟩)⟩
      case rest =>
      clear HU9
      obtain ⟨b, rfl, HCUT⟩ := hcut
      rename World => wg
      go_upto_if 168 with fail
      go_cut [17] from 169 to 173 (fun u17 wx => ∃ M, u17 = .pointer (some ⟨M, 0, none⟩) ∧ Hid (Gw w wx D2 P sec 403 20000 1073741824 M))
      case first =>
        rcases HCUT.out with ⟨rfl, hg⟩ | ⟨rfl, hg⟩
        · have HG5 := Lib.hid hg
          clear hg HCUT
          go_wp2_with fail
          go_meet
          case rel => exact ⟨Mm, rfl, HG5⟩
        · have HG5 := Lib.hid hg
          clear hg HCUT
          go_wp2_with fail
          refine (HG5.out.stands (by decide)).mono ?_
          rintro e wa ⟨rfl, o⟩
          have HG6 := Lib.hid (HG5.out.new o)
          clear o HG5
          go_wp2_with fail
          go_meet
          case rel => exact ⟨Mu, rfl, HG6⟩
      case rest =>
      clear HCUT
      obtain ⟨M, rfl, HG9⟩ := hcut
      rename World => wh
      go_wp2_with fail
      go_loopg [26, 29] n2 (fun gg pv t wr => ∃ (i P : Nat), gg = n2 - i ∧ i ≤ n2 ∧ t = .int .i64 (i : Int) ∧ pv = .pointer (some ⟨P, 0, none⟩) ∧ Hid (Gw w wr D2 P sec (403 + 600 * i) (20000 + 100 * i) (1073741824 - 600 * i) M))
      case atStart => exact ⟨0, P, rfl, Nat.zero_le _, rfl, rfl, HG9⟩
      case round =>
        clear HG9
        obtain ⟨i, P, rfl, hi, rfl, rfl, HA⟩ := hrel
        rename World => wr
        by_cases hlt : i < n2
        · have hil : i < l2.length := by have := HLN.out.2.2.1; omega
          obtain ⟨st, hst⟩ : ∃ st, l2[i]? = some st := ⟨_, List.getElem?_eq_getElem hil⟩
          obtain ⟨g, off, rfl, _, c0, c1, c2, c3⟩ := srow_cells (RD2.out wr HA.out.only) hst
          have i0 : (0 : Int) ≤ (i : Int) := by omega
          have i1 : (i : Int) < (n2 : Int) := by omega
          have hn150 := HLN.out.2.2.2
          have HD := Lib.hid (HA.out.step (by omega) (by omega) (by omega) st)
          have HI := Lib.hid (And.intro hlt hn150)
          have c1' : wr.cell? ⟨g, off + i * 4 + 1, none⟩ = some (.int .i64 st.at_) := c1
          have c2' : wr.cell? ⟨g, off + i * 4 + 2, none⟩ = some (.int .u8 (st.what.toNat : Int)) := c2
          have c3' : wr.cell? ⟨g, off + i * 4 + 3, none⟩ = some (.bool st.odd) := c3
          clear hlt hil hst hi hn150 c1 c2 c3
          go_wp2_with fail
          refine HD.out.mono ?_
          rintro e w5 ⟨P', rfl, hg⟩
          have HST := Lib.hid (hg.stands (by have := HI.out; omega))
          have HA5 := Lib.hid hg
          clear hg HD HA c0 c1' c2' c3'
          go_wp2_with fail
          refine HST.out.mono ?_
          rintro e w6 ⟨rfl, o6⟩
          have HA6 : Hid (Gw w w6 D2 P' sec (403 + 600 * (i + 1)) (20000 + 100 * (i + 1)) (1073741824 - 600 * (i + 1)) M) := Lib.hid (by
            have := (HA5.out.new o6).upto (n' := 403 + 600 * (i + 1)) (T' := 20000 + 100 * (i + 1)) (by omega) (by omega)
            rw [show 1073741824 - 600 * (i + 1) = 1073741824 - 600 * i - 600 by omega]
            exact this)
          clear o6 HA5 HST
          go_wp2_with fail
          go_roundg (n2 - (i + 1))
          case rel => exact ⟨i + 1, P', rfl, HI.out.1, by first | exact next_int (by have := HI.out.2; have := HI.out.1; omega) | rfl | (congr 1), rfl, HA6⟩
          case measure => have := HI.out.1; omega
        · have i1 : ¬ (i : Int) < (n2 : Int) := by omega
          clear hi hlt
          go_wp2_with fail
          go_ret
          exact ⟨rfl, HA.out.only⟩
theorem crashes_long1 (x0 x3 x4 : Int) (a1 a2 : Option Addr) (n1 c1 n2 c2 : Nat) (v5 v6 : Value) (w : World) (h : 150 < n1) : Calls Tryz.prog 8 #[.int .i64 x0, .slice a1 n1 c1, .slice a2 n2 c2, .int .i64 x3, .int .i64 x4, v5, v6] w fun e w' => e = .returned (.bool true) ∧ Only None' w w' := by
  go_enter Tryz.func8, Tryz.ntmps8
  go_wp2_with fail
  refine (long_yes a1 n1 c1 w h).mono ?_
  rintro e w1 ⟨rfl, rfl⟩
  go_wp2_with fail
  go_ret
  exact ⟨rfl, Only.refl _ _⟩
theorem crashes_long2 (x0 x3 x4 : Int) (a1 a2 : Option Addr) (n1 c1 n2 c2 : Nat) (v5 v6 : Value) (w : World) (h : n1 ≤ 150) (h2 : 150 < n2) : Calls Tryz.prog 8 #[.int .i64 x0, .slice a1 n1 c1, .slice a2 n2 c2, .int .i64 x3, .int .i64 x4, v5, v6] w fun e w' => e = .returned (.bool true) ∧ Only None' w w' := by
  go_enter Tryz.func8, Tryz.ntmps8
  go_wp2_with fail
  refine (long_no a1 n1 c1 w h).mono ?_
  rintro e w1 ⟨rfl, rfl⟩
  go_wp2_with fail
  refine (long_yes a2 n2 c2 w h2).mono ?_
  rintro e w1 ⟨rfl, rfl⟩
  go_wp2_with fail
  go_ret
  exact ⟨rfl, Only.refl _ _⟩
theorem crashes_walk (x0 x3 x4 : Int) (v1 v2 : Value) (l1 l2 : List Stp) (v5 v6 : Value) (keep again : List Bool) (w : World) (rd1 : Rd w 4 v1 l1.length (srow l1)) (rd2 : Rd w 4 v2 l2.length (srow l2)) (rd5 : Rd w 1 v5 keep.length (bo keep)) (rd6 : Rd w 1 v6 again.length (bo again)) (hk5 : keep.length ≤ 140737488351232) (hk6 : again.length ≤ 140737488351232) : Calls Tryz.prog 8 #[.int .i64 x0, v1, v2, .int .i64 x3, .int .i64 x4, v5, v6] w fun e w' => e = .returned (.bool true) ∧ Below w.heap.size w w' := by
  obtain ⟨a1, n1, c1, rfl⟩ := rd1.shape'
  obtain ⟨a2, n2, c2, rfl⟩ := rd2.shape'
  have fin : ∀ {e : Ending} {w' : World}, (e = .returned (.bool true) ∧ Only None' w w') → e = .returned (.bool true) ∧ Below w.heap.size w w' := fun h => ⟨h.1, h.2.below (Nat.le_refl _) fun _ e => e.elim⟩
  by_cases h1 : n1 ≤ 150
  · by_cases h2 : n2 ≤ 150
    · exact (crashes_main x0 x3 x4 a1 a2 n1 c1 n2 c2 l1 l2 v5 v6 keep again w rd1 rd2 rd5 rd6 hk5 hk6 h1 h2).mono fun e w' h => fin h
    · exact (crashes_long2 x0 x3 x4 a1 a2 n1 c1 n2 c2 v5 v6 w h1 (by omega)).mono fun e w' h => fin h
  · exact (crashes_long1 x0 x3 x4 a1 a2 n1 c1 n2 c2 v5 v6 w (by omega)).mono fun e w' h => fin h
end Go.Proofs.YteoeaojebklfjaaGreatDoor
namespace Go.Proofs.YteoeaojebklfjaaGreatDoor
open Go.RowKit Go.Maps Go.WideShapes Go.ChangeShapes
theorem cells4 : Tryz.prog.cellsOf 4 = 1 := by kernel_rfl
theorem bytes4 : Tryz.prog.bytesOf 4 = 1 := by kernel_rfl
theorem reach_le : reachBytes ≤ 140737488351232 := by decide
set_option maxRecDepth 20000 in
theorem open_keep {H : Type} {enc : TypeId × Value → H} {W : World} {base : Nat} {v : Value} {d : DataW H} {ps : List MemPlace}
    (hok : Value.okWide Tryz.prog W .any base 43 v) (hd : DataW.Trod enc Tryz.prog W 0 (fun _ => true) true 43 v d ps) (hw : ∀ n ∈ d.weights Tryz.prog 43, n ≤ reachBytes) :
    ∃ l : List Bool, Rd W 1 v l.length (bo l) ∧ l.length ≤ 140737488351232 := by
  obtain ⟨l, h1, h2⟩ := open_bools Tryz.underlying43 Tryz.underlying4 cells4 hok hd hw
  rw [bytes4, Nat.mul_one] at h2
  exact ⟨l, h1, Nat.le_trans h2 reach_le⟩
end Go.Proofs.YteoeaojebklfjaaGreatDoor
