/- Y6 Y7 in one text. -/
import Derived.Test.YteoeaojebklfjaaGreatDoorWLost6
import Derived.Test.YteoeaojebklfjaaGreatDoorWLost0
import Derived.Test.YteoeaojebklfjaaGreatDoorWLost3
import Derived.Test.YteoeaojebklfjaaGreatDoorWLost4
namespace Go.Proofs.YteoeaojebklfjaaGreatDoor
open Go.RowKit Go.Maps
set_option linter.unusedVariables false
set_option linter.unusedSimpArgs false
theorem replayL_key {most : Int} : ∀ (f : Nat) (b : List UInt8) (l : List (Nat × Sec)), replayL most f b = some l → ∀ q ∈ l, (q.1 : Int) ≤ most
  | f, [], l, h => by
    have : l = [] := by cases f <;> simpa [replayL] using h.symm
    subst this
    intro q hq
    simp at hq
  | 0, _ :: _, l, h => by simp [replayL] at h
  | f + 1, c :: b, l, h => by
    rw [replayL] at h
    · cases hc : rdCount most (c :: b) with
      | none => rw [hc] at h; cases h
      | some x =>
        obtain ⟨n, r⟩ := x
        rw [hc] at h
        simp only at h
        cases hs : rdStr 512 r with
        | none => rw [hs] at h; cases h
        | some y =>
          obtain ⟨t, r'⟩ := y
          rw [hs] at h
          simp only at h
          obtain ⟨l', h1, rfl⟩ := Option.map_eq_some_iff.1 h
          intro q hq
          rcases List.mem_cons.1 hq with rfl | hq
          · exact (rdCount_len hc).2.1
          · exact replayL_key f r' l' h1 q hq
    · simp
theorem replayAll_key {most : Int} : ∀ (rs : List Rec) (D D' : List (Nat × Sec)), replayAll most rs D = some D' → kRise D → (∀ q ∈ D, (q.1 : Int) ≤ most) → kRise D' ∧ ∀ q ∈ D', (q.1 : Int) ≤ most
  | [], D, D', h, h0, h1 => by
    injection h with h
    subst h
    exact ⟨h0, h1⟩
  | b :: rs, D, D', h, h0, h1 => by
    rw [replayAll] at h
    split at h
    · cases h
    · rename_i l hl
      refine replayAll_key rs _ _ h (rise_insL _ _ h0) fun q hq => ?_
      rcases mem_insL hq with hq | hq
      · exact replayL_key _ _ _ hl q hq
      · exact h1 q hq
theorem open_gk {sec : Nat} {d : Dk} (hu : Un d) (hl : d.lasts.length = sec) (hf : d.Few 500) (h64 : 64 ≤ sec) (h400 : sec ≤ 400) (h0 : (openS d).1 = 0) : Gk sec 0 (openS d).2 := by
  by_cases hno : d.lasts.length < 64 ∨ (d.read 0).take 8 ≠ markB ∨ 127 < ((d.read 0).getD 8 0).toNat
  · have := (open_form hno).1; omega
  obtain ⟨base, hb⟩ : ∃ base, base = numB (((d.read 0).drop 8).take 8) := ⟨_, rfl⟩
  by_cases h2 : 4611686018427387904 < numB (((d.read 0).drop 8).take 8)
  · have := (open_great hno h2).1; omega
  cases hr : replayAll (((Pg.made d.lasts.length).pages : Int) - 1) (runG (d.lasts.length / 4) (gAt 1 d) (d.lasts.length / 4) base [] [] base).1 [] with
  | none =>
    have := (open_torn hno hb (by omega) hr).1
    omega
  | some D =>
    obtain ⟨s, hs⟩ : ∃ s : Sy, s = ⟨{ Pg.made d.lasts.length with dirty := D }, Rg.opened 1 (d.lasts.length / 4) base (gAt 1 d), d⟩ := ⟨_, rfl⟩
    have ho := open_on hno hb (by omega) hr hs
    have hpg : (Pg.made d.lasts.length).pages = sec - 1 - sec / 4 := by rw [hl]; rfl
    obtain ⟨k1, k2⟩ := replayAll_key _ _ _ hr List.Pairwise.nil fun q hq => by cases hq
    have k3 := replayAll_ok _ _ _ hr fun q hq => by cases hq
    rw [hpg] at k2
    have hdl : D.length ≤ sec := Nat.le_trans (rise_le k1 fun q hq => by have := k2 q hq; omega) (show sec - 1 - sec / 4 ≤ sec by omega)
    have hsd : s.d = d := by rw [hs]
    have hsp : s.p.dirty = D := by rw [hs]
    have htop : s.r.top ≤ 4611686018427387904 := by rw [hs]; exact topG_big (by omega) _
    have hri : Ri sec s.r := by
      rw [hs]
      refine ⟨Rg.opened_ok (by omega) (by omega) (by omega), rfl, ?_⟩
      show d.lasts.length / 4 = _
      rw [hl]
    rw [ho] at h0 ⊢
    by_cases hc : (s.settle s.r.top).1 ≠ 0
    · rw [if_pos hc] at h0
      exact absurd h0 hc
    · rw [if_neg hc]
      have hc0 : (s.settle s.r.top).1 = 0 := by
        by_cases e : (s.settle s.r.top).1 = 0
        · exact e
        · exact absurd e hc
      obtain ⟨g1, g2⟩ := settle_good hc0
      have hfw := settle_few (s := s) (base := s.r.top) (by rw [hsd]; exact hf)
      rw [hsp] at hfw
      have hun : Un (s.settle s.r.top).2.d := Un.settle (by rw [hsd]; exact hu)
      have hln : (s.settle s.r.top).2.d.lasts.length = sec := by rw [settle_len, hsd]; exact hl
      have hr2 := hri.settle (base := s.r.top) (by rw [hsd]; exact hl) h64 (by omega) htop
      obtain ⟨x, hx⟩ : ∃ x, x = (s.settle s.r.top).2 := ⟨_, rfl⟩
      rw [← hx] at g1 hfw hun hln hr2 ⊢
      have hxp : x.p.first = 1 + sec / 4 ∧ x.p.pages = sec - 1 - sec / 4 ∧ x.p.dirty = [] := by
        rw [g1, hs]
        refine ⟨?_, hpg, rfl⟩
        show (Pg.made d.lasts.length).first = _
        rw [hl]; rfl
      refine ⟨hxp.1, hxp.2.1, hun, hln, hfw.mono (by omega), (fun q hq => ?_), (fun q hq => by simp [Sy.abort, Pg.abort, Pg.aborting, Pg.cleared] at hq), ?_, ?_, Nat.zero_le _, metaOf_mb _ _, metaOf_mb _ _, hr2⟩
      · have hq' : q ∈ x.p.dirty := hq
        rw [hxp.2.2] at hq'
        cases hq'
      · show x.p.dirty.length + 0 ≤ 0
        rw [hxp.2.2]
        exact Nat.le_refl _
      · have := chase_len x.p.cleared x.d (x.p.pages + 1) (metaOf (x.p.cleared.get x.d 0).1).head []
        have h2 := hxp.2.1
        show (x.p.cleared.chase x.d (x.p.pages + 1) (metaOf (x.p.cleared.get x.d 0).1).head []).length ≤ _
        have h3 : ([] : List (Nat × Bool)).length = 0 := rfl
        omega
def Gs (w0 w : World) (P sec k : Nat) : Prop := ∃ L R F s, L.P = P ∧ SyAt w L R F s ∧ (∀ j, allS L R F j → w0.heap.size ≤ j) ∧ Only None' w0 w ∧ Gk sec k s
section
variable {w0 w w1 w' : World} {P sec k : Nat} {L L' : Lo} {R R' : Nat} {F F' : Nat → Prop} {s s' : Sy}
theorem Gs.new (h : Gs w0 w P sec k) (o : Only None' w w') : Gs w0 w' P sec k := by
  obtain ⟨L, R, F, s, h1, h2, h3, h4, h5⟩ := h
  exact ⟨L, R, F, s, h1, h2.new o, h3, h4.trans o, h5⟩
theorem Gs.only (h : Gs w0 w P sec k) : Only None' w0 w := by
  obtain ⟨L, R, F, s, h1, h2, h3, h4, h5⟩ := h
  exact h4
theorem gs_to (h3 : ∀ j, allS L R F j → w0.heap.size ≤ j) (h4 : Only None' w0 w) (hs : SyAt w' L' R' F' s') (t : To w w' L R F L' R' F') (g : Gk sec k s') : Gs w0 w' L.P sec k :=
  ⟨L', R', F', s', t.P, hs, fun j hj => by
    rcases t.kept.fresh j hj with e | e
    · exact h3 j e
    · exact Nat.le_trans h4.size e, h4.trans2 t.only fun j hj e => by have := h3 j e; omega, g⟩
theorem gs_own (h2 : SyAt w L R F s) (h3 : ∀ j, allS L R F j → w0.heap.size ≤ j) (h4 : Only None' w0 w) {p' : Pg} (hp : PgAt w' L (.pointer (some ⟨R, 0, none⟩)) p') (o : Only L.own w w') (g : Gk sec k ⟨p', s.r, s.d⟩) : Gs w0 w' L.P sec k := by
  obtain ⟨a, b⟩ := own_to h2 hp o
  exact gs_to h3 h4 a b g
theorem Gk.wt (h : Gk sec k s) (hk : k ≤ 160) : s.d.waits.length ≤ 1000000 := by have := h.few.waits; omega
def Rv (e : Ending) : Prop := ∃ v, e = .returned v
theorem gs_alloc (h : Gs w0 w P sec k) (hk : k ≤ 160) (h400 : sec ≤ 400) : Calls Tryz.prog 11 #[.pointer (some ⟨P, 0, none⟩)] w fun e w' => Rv e ∧ Gs w0 w' P sec (k + 1) := by
  obtain ⟨L, R, F, s, rfl, h2, h3, h4, h5⟩ := h
  have ok := h5.ok (by omega) (by omega)
  have ga := h5.alloc (by omega)
  unfold Pg.alloc at ga
  by_cases hf : s.p.free = 0
  · rw [if_pos hf] at ga
    exact (alloc_full h2.pg ok hf).mono fun e w' ⟨a, o⟩ => ⟨⟨_, a⟩, L, R, F, s, rfl, h2.new o, h3, h4.trans o, ga⟩
  · rw [if_neg hf] at ga
    by_cases hh : s.p.m.head = 0
    · rw [if_pos hh] at ga
      exact (alloc_fresh h2.pg ok hf hh).mono fun e w' ⟨a, b, o⟩ => ⟨⟨_, a⟩, gs_own h2 h3 h4 b o ga⟩
    · rw [if_neg hh] at ga
      by_cases hg : (s.p.get s.d s.p.m.head).2 = 0
      · rw [if_pos hg] at ga
        exact (alloc_again h2.pg ok h2.disk h5.un.1 (h5.wt hk) hf hh (s := (s.p.get s.d s.p.m.head).1) (by rw [← hg])).mono fun e w' ⟨a, b, o⟩ => ⟨⟨_, a⟩, gs_own h2 h3 h4 b o ga⟩
      · rw [if_neg hg] at ga
        have hg1 : (s.p.get s.d s.p.m.head).2 = 1 := by
          unfold Pg.get at hg ⊢
          split
          · rename_i x e; rw [e] at hg; exact absurd rfl hg
          · rename_i e
            rw [e] at hg
            split
            · rename_i x e2; rw [e2] at hg; exact absurd rfl hg
            · rename_i e2
              rw [e2] at hg
              split
              · rename_i e3; simp only [if_pos e3] at hg; exact absurd trivial hg
              · rfl
        exact (alloc_bad h2.pg ok h2.disk h5.un.1 (h5.wt hk) hf hh hg1).mono fun e w' ⟨a, o⟩ => ⟨⟨_, a⟩, L, R, F, s, rfl, h2.new o, h3, h4.trans o, ga⟩
theorem gs_write (h : Gs w0 w P sec k) (hk : k ≤ 160) (h400 : sec ≤ 400) (o : Only None' w w1) {g : Nat} {x : Sec} (hv : Vec w1 1 (.slice (some ⟨g, 0, none⟩) 512 512) 512 (bv x)) (hx : x.length = 512) (hg : w.heap.size ≤ g) (n : Int) : Calls Tryz.prog 14 #[.pointer (some ⟨P, 0, none⟩), .int .i64 n, .slice (some ⟨g, 0, none⟩) 512 512] w1 fun e w' => ∃ c : Int, e = .returned (.int .i64 c) ∧ Gs w0 w' P sec (k + 1) ∧ Only (fun j => w0.heap.size ≤ j) w1 w' := by
  obtain ⟨L, R, F, s, rfl, h2, h3, h4, h5⟩ := h
  have ok := h5.ok (by omega) (by omega)
  have h2' := h2.new o
  have h4' := h4.trans o
  cases hu : s.p.uses n with
  | false => exact (pwrite_no h2'.pg ok hu _).mono fun e w' ⟨a, b⟩ => ⟨_, a, ⟨L, R, F, s, rfl, b ▸ h2', h3, b ▸ h4', h5.up⟩, b ▸ Only.refl _ _⟩
  | true =>
    obtain ⟨q, rfl, hq⟩ := uses_nat s.p hu
    refine (pwrite_ok h2'.pg ok hu hv hx fun e => ?_).mono fun e w' ⟨a, b, oo⟩ => ⟨_, a, gs_own h2' h3 h4' b (oo.mono fun j _ hj => ?_) (h5.write (by omega) hq hx), oo.mono fun j _ hj => h3 j (.inl ?_)⟩
    · have := h2.lt (.inl e); omega
    · rcases hj with e | e
      · exact .inr (.inr (.inl e))
      · exact .inr (.inr (.inr (.inr e)))
    · rcases hj with e | e
      · exact .inr (.inr (.inl e))
      · exact .inr (.inr (.inr (.inr e)))
theorem gs_drop (h : Gs w0 w P sec k) (hk : k ≤ 160) (h400 : sec ≤ 400) (n : Int) : Calls Tryz.prog 22 #[.pointer (some ⟨P, 0, none⟩), .int .i64 n] w fun e w' => Rv e ∧ Gs w0 w' P sec (k + 1) := by
  obtain ⟨L, R, F, s, rfl, h2, h3, h4, h5⟩ := h
  have ok := h5.ok (by omega) (by omega)
  cases hu : s.p.uses n with
  | false => exact (drop_no h2.pg ok hu).mono fun e w' ⟨a, b⟩ => ⟨⟨_, a⟩, L, R, F, s, rfl, b ▸ h2, h3, b ▸ h4, h5.up⟩
  | true =>
    obtain ⟨q, rfl, hq⟩ := uses_nat s.p hu
    exact (drop_ok h2.pg ok hu).mono fun e w' ⟨a, b, oo⟩ => ⟨⟨_, a⟩, gs_own h2 h3 h4 b oo (h5.drop (by omega) hq)⟩
theorem gs_root (h : Gs w0 w P sec k) (hk : k ≤ 160) (h400 : sec ≤ 400) (n : Int) : Calls Tryz.prog 12 #[.pointer (some ⟨P, 0, none⟩), .int .i64 n] w fun e w' => Rv e ∧ Gs w0 w' P sec (k + 1) := by
  obtain ⟨L, R, F, s, rfl, h2, h3, h4, h5⟩ := h
  have ok := h5.ok (by omega) (by omega)
  exact (setRoot_any h2.pg ok n).mono fun e w' ⟨a, b, oo⟩ => ⟨⟨_, a⟩, gs_own h2 h3 h4 b (oo.mono fun j _ hj => .inl hj) (h5.setRoot n)⟩
theorem gs_commit (h : Gs w0 w P sec k) (hk : k ≤ 160) (h64 : 64 ≤ sec) (h400 : sec ≤ 400) : Calls Tryz.prog 13 #[.pointer (some ⟨P, 0, none⟩)] w fun e w' => Rv e ∧ Gs w0 w' P sec (k + 1) := by
  obtain ⟨L, R, F, s, rfl, h2, h3, h4, h5⟩ := h
  have ok := h5.ok (by omega) (by omega)
  have hdn := h5.dn
  refine (commit_any h2 ok h5.ring.ok h5.un.1 h5.few (by omega) (by rw [h5.len]; omega) (by rw [h5.len, h5.ring.first, h5.ring.count]; omega) (by omega)).mono ?_
  rintro e w' ⟨a, L', R', F', b, t⟩
  exact ⟨⟨_, a⟩, gs_to h3 h4 b t (h5.commit h64 h400 (by omega))⟩
theorem gs_abort (h : Gs w0 w P sec k) (hk : k ≤ 160) (h64 : 64 ≤ sec) (h400 : sec ≤ 400) : Calls Tryz.prog 30 #[.pointer (some ⟨P, 0, none⟩)] w fun e w' => Rv e ∧ Gs w0 w' P sec (k + 1) := by
  obtain ⟨L, R, F, s, rfl, h2, h3, h4, h5⟩ := h
  have ok := h5.ok (by omega) (by omega)
  refine (abort_sy h2 ok h5.un.1 h5.few (by omega) (by rw [h5.len, h5.first, h5.pages]; omega) (by rw [h5.pages]; omega)).mono ?_
  rintro e w' ⟨a, L', R', F', b, t⟩
  exact ⟨⟨_, a⟩, gs_to h3 h4 b t (h5.abort h400)⟩
theorem gs_settle (h : Gs w0 w P sec k) (hk : k ≤ 160) (h64 : 64 ≤ sec) (h400 : sec ≤ 400) : Calls Tryz.prog 16 #[.pointer (some ⟨P, 0, none⟩)] w fun e w' => Rv e ∧ Gs w0 w' P sec (k + 1) := by
  obtain ⟨L, R, F, s, rfl, h2, h3, h4, h5⟩ := h
  have ok := h5.ok (by omega) (by omega)
  refine (Settle_any h2 ok h5.un.1 h5.few (by omega) (by rw [h5.len]; omega) h5.ring.ok.top).mono ?_
  rintro e w' ⟨a, L', R', F', b, t⟩
  exact ⟨⟨_, a⟩, gs_to h3 h4 b t (h5.settle h64 h400 (by omega))⟩
theorem gs_read (h : Gs w0 w P sec k) (hk : k ≤ 160) (h400 : sec ≤ 400) (n : Int) : Calls Tryz.prog 20 #[.pointer (some ⟨P, 0, none⟩), .int .i64 n] w fun e w' => Rv e ∧ Gs w0 w' P sec (k + 1) := by
  obtain ⟨L, R, F, s, rfl, h2, h3, h4, h5⟩ := h
  have ok := h5.ok (by omega) (by omega)
  cases hu : s.p.uses n with
  | false => exact (pread_no h2.pg ok hu).mono fun e w' ⟨a, b⟩ => ⟨⟨_, a⟩, L, R, F, s, rfl, b ▸ h2, h3, b ▸ h4, h5.up⟩
  | true =>
    obtain ⟨q, rfl, hq⟩ := uses_nat s.p hu
    by_cases hg : (s.p.get s.d q).2 = 0
    · exact (pread_ok h2.pg ok h2.disk h5.un.1 (h5.wt hk) hu (s := (s.p.get s.d q).1) (by rw [← hg])).mono fun e w' ⟨v, a, _, _, o⟩ => ⟨⟨_, a⟩, L, R, F, s, rfl, h2.new o, h3, h4.trans o, h5.up⟩
    · have hg1 : (s.p.get s.d q).2 = 1 := by
        unfold Pg.get at hg ⊢
        split
        · rename_i x e; rw [e] at hg; exact absurd rfl hg
        · rename_i e
          rw [e] at hg
          split
          · rename_i x e2; rw [e2] at hg; exact absurd rfl hg
          · rename_i e2
            rw [e2] at hg
            split
            · rename_i e3; simp only [if_pos e3] at hg; exact absurd trivial hg
            · rfl
      exact (pread_bad h2.pg ok h2.disk h5.un.1 (h5.wt hk) hu hg1).mono fun e w' ⟨a, o⟩ => ⟨⟨_, a⟩, L, R, F, s, rfl, h2.new o, h3, h4.trans o, h5.up⟩
theorem gs_pages (h : Gs w0 w P sec k) : Calls Tryz.prog 21 #[.pointer (some ⟨P, 0, none⟩)] w fun e w' => e = .returned (.int .i64 ((sec - 1 - sec / 4 : Nat) : Int)) ∧ w = w' := by
  obtain ⟨L, R, F, s, rfl, h2, h3, h4, h5⟩ := h
  have := pages_any h2.pg
  rw [h5.pages] at this
  exact this
theorem gs_open {D : Nat} {d : Dk} (h : Dsk w0 w D F d) (hu : Un d) (hl : d.lasts.length = sec) (hf : d.Few 500) (h64 : 64 ≤ sec) (h400 : sec ≤ 400) : Calls Tryz.prog 17 #[.pointer (some ⟨D, 0, none⟩)] w fun e w' => (∃ c : Int, c ≠ 0 ∧ e = .returned (.tuple #[.pointer none, .int .i64 c]) ∧ Only None' w0 w') ∨ ∃ P, e = .returned (.tuple #[.pointer (some ⟨P, 0, none⟩), .int .i64 0]) ∧ Gs w0 w' P sec 0 := by
  refine (Open_any h.at_ hu.1 hf (by decide) (by rw [hl]; omega) (by rw [hl]; omega)).mono ?_
  intro e w' hx
  unfold OpenRes at hx
  rcases hx with ⟨q, rfl, F4, q4, qK⟩ | ⟨q, L4, R4, F4, rfl, q4, qD, qL, qR, qK⟩
  · exact .inl ⟨_, q, rfl, (h.step q4 qK).only⟩
  · have hd := h.step (by have := q4.disk; rw [qD] at this; exact this) qK
    refine .inr ⟨L4.P, rfl, L4, R4, F4, _, rfl, q4, fun j hj => ?_, hd.only, open_gk hu hl hf h64 h400 q⟩
    have := h.only.size
    rcases hj with e | rfl | e
    · have := qL j e; omega
    · omega
    · exact hd.fresh j e
end
end Go.Proofs.YteoeaojebklfjaaGreatDoor
namespace Go.Proofs.YteoeaojebklfjaaGreatDoor
open Go.RowKit Go.Maps
set_option linter.unusedVariables false
set_option linter.unusedSimpArgs false
set_option maxRecDepth 20000
section
variable {a : Act} {o : Oper} {x y z : Operand} {g off : Nat}
theorem y_idx45 (w : World) {g off n cap k : Nat} (hk : k < n) (ho : o.op = .indexAddr 45 x y) (hx : a.eval x = .slice (some ⟨g, off, none⟩) n cap) (hy : a.eval y = .int .i64 (k : Int)) : (execOp a.eval o).run Tryz.prog w = .ok (.value (.pointer (some ⟨g, off + k * 4, none⟩))) w := by
  have i0 : (0 : Int) ≤ (k : Int) := by omega
  have i1 : (k : Int) < (n : Int) := by omega
  have hs : (Tryz.prog.info? 54).map (·.size) = some 4 := by kernel_rfl
  unfold execOp
  simp only [ho, hx, hy]
  go_simp
theorem y_load5' {w : World} {z : Int} (ho : o.op = .load 5 x) (hx : a.eval x = .pointer (some ⟨g, off, none⟩)) (hc : w.cell? ⟨g, off, none⟩ = some (.int .u8 z)) : (execOp a.eval o).run Tryz.prog w = .ok (.value (.int .u8 z)) w := by
  unfold execOp
  simp only [ho, hx]
  go_simp
end
theorem sectors100 (x : Int) : ∃ sec : Nat, wrap64 (64 + wrap64 ((IntKind.u64.wrap x).tmod 100)) = (sec : Int) ∧ 64 ≤ sec ∧ sec ≤ 163 := by
  obtain ⟨m, h1, h2⟩ := mod_is x 100 (by decide) (by decide)
  refine ⟨m + 64, ?_, by omega, by omega⟩
  rw [h1, IntWalk.wrap64_in _ (by omega)]
  omega
theorem set_byte {w : World} {g off cap : Nat} {s : Sec} (h : Vec w 1 (.slice (some ⟨g, off, none⟩) 512 cap) 512 (bv s)) {k : Nat} (hk : k < 512) (c : UInt8) : Vec (w.setCell ⟨g, off + k, none⟩ (.int .u8 (c.toNat : Int))) 1 (.slice (some ⟨g, off, none⟩) 512 cap) 512 (bv (s.set k c)) := by
  have h1 := h.put (o := k) (vs := [.int .u8 (c.toNat : Int)]) (by simp; omega)
  have hl := h.len
  have e : bv (s.set k c) = (bv s).set k (.int .u8 (c.toNat : Int)) := by unfold bv; rw [List.map_set]
  rw [e, List.set_eq_take_append_cons_drop, if_pos (by omega)]
  rw [List.length_singleton] at h1
  simpa [World.setCells] using h1
def Lz (w0 w : World) (D sec n : Nat) : Prop := ∃ F d, Dsk w0 w D F d ∧ Un d ∧ d.lasts.length = sec ∧ d.Few n
set_option maxHeartbeats 8000000 in
theorem lost_main (x : Int) (fm : Bool) (a1 a2 a3 : Option Addr) (n1 c1 n2 c2 n3 c3 : Nat) (l1 : List Int) (l2 : List UInt8) (l3 : List Stp) (w : World) (rd1 : Rd w 1 (.slice a1 n1 c1) l1.length (l1.map (Value.int .i64))) (rd2 : Rd w 1 (.slice a2 n2 c2) l2.length (bv l2)) (rd3 : Rd w 4 (.slice a3 n3 c3) l3.length (srow l3)) (h1 : n1 ≤ 50) (h2 : n2 ≤ 50) (h3 : n3 ≤ 150) : Calls Tryz.prog 6 #[.int .i64 x, .bool fm, .slice a1 n1 c1, .slice a2 n2 c2, .slice a3 n3 c3] w fun e w' => e = .returned (.bool true) ∧ Only None' w w' := by
  have HLN : Hid (l1.length = n1 ∧ l2.length = n2 ∧ l3.length = n3 ∧ n1 ≤ 50 ∧ n2 ≤ 50 ∧ n3 ≤ 150) := Lib.hid ⟨by
    obtain ⟨a', c', e⟩ := rd1.shape
    injection e with _ e _
    exact e.symm, by
    obtain ⟨a', c', e⟩ := rd2.shape
    injection e with _ e _
    exact e.symm, by
    obtain ⟨a', c', e⟩ := rd3.shape
    injection e with _ e _
    exact e.symm, h1, h2, h3⟩
  obtain ⟨sec, hsec, hs1, hs2⟩ := sectors100 x
  have RD1 : Hid (∀ w', Only None' w w' → Rd w' 1 (.slice a1 n1 c1) l1.length (l1.map (Value.int .i64))) := Lib.hid fun w' o => rd1.only o fun _ _ _ _ e => e
  have RD2 : Hid (∀ w', Only None' w w' → Rd w' 1 (.slice a2 n2 c2) l2.length (bv l2)) := Lib.hid fun w' o => rd2.only o fun _ _ _ _ e => e
  have RD3 : Hid (∀ w', Only None' w w' → Rd w' 4 (.slice a3 n3 c3) l3.length (srow l3)) := Lib.hid fun w' o => rd3.only o fun _ _ _ _ e => e
  have HSEC := Lib.hid (And.intro hs1 hs2)
  have d1 : ¬ (50 : Int) < (n1 : Int) := by omega
  have d2 : ¬ (50 : Int) < (n2 : Int) := by omega
  have e1 : decide ((50 : Int) < (n1 : Int)) = false := decide_eq_false d1
  have e2 : decide ((50 : Int) < (n2 : Int)) = false := decide_eq_false d2
  clear rd1 rd2 rd3
  go_enter Tryz.func6, Tryz.ntmps6
  go_wp2_with fail
  refine (works_any w).mono ?_
  rintro e w1 ⟨rfl, o1⟩
  have O1 := Lib.hid o1
  clear o1
  go_wp2_with fail
  refine (long_no a3 n3 c3 w1 h3).mono ?_
  rintro e w1' ⟨rfl, rfl⟩
  clear h1 h2 h3 d1 d2 e1 e2
  go_wp2_with fail
  simp only [hsec]
  have s0 : (64 : Int) ≤ (sec : Int) := by omega
  have s1 : (sec : Int) ≤ 163 := by omega
  refine (new_dsk sec (sec : Int) rfl w w1 O1.out (by omega) (by omega)).mono ?_
  rintro e w2 ⟨D, F, rfl, hd, hF, o2⟩
  have HD := Lib.hid hd
  clear hd hF o2 hsec hs1 hs2 O1
  go_upto_if 49 with fail
  go_cut [] from 50 to 51 (fun wx => Hid (Lz w wx D sec 4))
  case first =>
    cases fm with
    | true =>
      go_wp2_with fail
      refine (Format_any HD.out.at_ HSEC.out.1 (by have := HSEC.out; omega)).mono ?_
      rintro e w3 ⟨L, R, F', rfl, hs, hD, hL, hR, hK⟩
      have HZ : Hid (Lz w w3 D sec 4) := Lib.hid ⟨F', formatD sec, HD.out.step (by have := hs.disk; rw [hD] at this; exact this) hK, ⟨(formatD_calm sec).dead, (formatD_calm sec).set⟩, (formatD_calm sec).len, (formatD_calm sec).few⟩
      clear hs hD hL hR hK
      go_wp2_with fail
      go_meet
      case rel => exact HZ
    | false =>
      go_wp2_with fail
      go_meet
      case rel => exact Lib.hid ⟨F, Dk.new sec, HD.out, ⟨rfl, rfl⟩, by show (List.replicate sec zs).length = sec; rw [List.length_replicate], (calm_new sec).few.mono (by decide)⟩
  case rest =>
  have HZ0 := Lib.hid hcut.out
  clear hcut HD
  rename World => wc
  go_upto_block 0 with fail
  go_cut [13, 14, 15, 16, 17] from 52 to 102 (fun u13 u14 u15 u16 u17 wx => Hid (Lz w wx D sec 60))
  case first =>
    go_wp2_with fail
    go_loopg [13] n1 (fun gg t wr => ∃ i : Nat, gg = n1 - i ∧ i ≤ n1 ∧ t = .int .i64 (i : Int) ∧ Hid (Lz w wr D sec (4 + i)))
    case atStart => exact ⟨0, rfl, Nat.zero_le _, rfl, HZ0⟩
    case round =>
      clear HZ0
      obtain ⟨i, rfl, hi, rfl, HZ⟩ := hrel
      rename World => wr
      by_cases hlt : i < n1 ∧ i < n2
      · obtain ⟨hl1, hl2⟩ := hlt
        have hln := HLN.out
        have i0 : (0 : Int) ≤ (i : Int) := by omega
        have i1 : (i : Int) < (n1 : Int) := by omega
        have i2 : (i : Int) < (n2 : Int) := by omega
        have HI := Lib.hid (And.intro hl1 (And.intro hl2 hln.2.2.2.1))
        have ho : Only None' w wr := by
          obtain ⟨F, d, hd, _⟩ := HZ.out
          exact hd.only
        obtain ⟨ga, oa, ca, e, hga, hca⟩ := (RD1.out wr ho).at_ (by omega)
        injection e with e e2 e3
        subst e
        clear e2 e3
        obtain ⟨gb, ob, cb', e, hgb, hcb⟩ := (RD2.out wr ho).at_ (by omega)
        injection e with e e2 e3
        subst e
        clear e2 e3
        obtain ⟨z, hz⟩ : ∃ z, l1[i]? = some z := ⟨_, List.getElem?_eq_getElem (by omega)⟩
        obtain ⟨bb, hbb⟩ : ∃ bb, l2[i]? = some bb := ⟨_, List.getElem?_eq_getElem (by omega)⟩
        have cz : wr.cell? ⟨ga, oa + i, none⟩ = some (.int .i64 z) := hca i _ (by rw [List.getElem?_map, hz]; rfl)
        have HCZ : Hid (∀ w', Only None' w w' → w'.cell? ⟨ga, oa + i, none⟩ = some (.int .i64 z) ∧ w'.cell? ⟨gb, ob + i, none⟩ = some (.int .u8 (bb.toNat : Int))) := Lib.hid fun w' o => by
          obtain ⟨g3, o3, c3, e, _, hc⟩ := (RD1.out w' o).at_ (by omega)
          injection e with e _ _
          injection e with e
          injection e with e e4
          subst e; subst e4
          obtain ⟨g4, o4, c4, e, _, hc4⟩ := (RD2.out w' o).at_ (by omega)
          injection e with e _ _
          injection e with e
          injection e with e e4
          subst e; subst e4
          exact ⟨hc i _ (by rw [List.getElem?_map, hz]; rfl), hc4 i _ (by show (l2.map fun c => Value.int .u8 (c.toNat : Int))[i]? = _; rw [List.getElem?_map, hbb]; rfl)⟩
        have hwl : IntKind.u64.wrap (sec : Int) = (sec : Int) := u64_count sec (by omega)
        obtain ⟨m, hm, hm2⟩ := mod_is z (sec : Int) (by omega) (by omega)
        obtain ⟨kk, hkk, hkk2⟩ := mod_is ((IntKind.u64.wrap z).tdiv (sec : Int)) 512 (by decide) (by decide)
        have hwz : ((sec : Int) == 0) = false := by simp; omega
        have hwz2 : ¬ (sec : Int) = 0 := by omega
        have m0 : (0 : Int) ≤ (m : Int) := by omega
        clear hl1 hl2 hln hga hca hgb hcb hi hbb hz ho
        go_upto_region 13 with fail
        simp only [hm]
        have HM := Lib.hid (show m < sec by omega)
        clear hm hm2
        obtain ⟨F2, d, hdk, hun, hlen, hfew⟩ := HZ.out
        have HRD := Lib.hid (hdk.read hfew (by have := HI.out; omega) hun.1 (k := (m : Int)) rfl (by rw [hlen]; exact HM.out) rfl)
        have HDD := Lib.hid (And.intro hun (And.intro hlen (And.intro (And.intro hfew hdk.only.size) (fun j (hj : wr.heap.size ≤ j) => hdk.out hj))))
        have hv5l : Hid ((d.read m).length = 512) := Lib.hid (Dk.read_length (DiskAt.ok hdk.at_) (by rw [hlen]; exact HM.out))
        clear hdk hun hlen hfew HZ
        go_wp2_with fail
        refine HRD.out.mono ?_
        rintro e w5 ⟨g, off, cap, rfl, hv5, hg5, hd5, o5⟩
        have HV5 := Lib.hid (And.intro hv5 (And.intro hg5 hd5))
        have cz5 := (HCZ.out w5 hd5.only).1
        clear hv5 hg5 hd5 o5 HRD cz
        go_upto_region 17 with fail
        simp only [hkk]
        have k0 : (0 : Int) ≤ (kk : Int) := by omega
        have hcb5 := (HCZ.out w5 HV5.out.2.2.only).2
        obtain ⟨u5, hu5, hf5⟩ := byte_slot' HV5.out.1 (j := kk) (by omega)
        obtain ⟨w6, hw6⟩ : ∃ w6, w6 = w5.setCell ⟨g, off + kk, none⟩ (.int .u8 (bb.toNat : Int)) := ⟨_, rfl⟩
        have hv6 := set_byte HV5.out.1 (k := kk) (by omega) bb
        rw [← hw6] at hv6
        have ho6 : Only (fun j => j = g) w5 w6 := by rw [hw6]; exact (Only.refl (fun j => j = g) w5).setCell (p := ⟨g, off + kk, none⟩) rfl _
        have hgF : ¬ F2 g := HDD.out.2.2.2 g HV5.out.2.1
        have hd6 : Dsk w w6 D F2 d := HV5.out.2.2.other (Kept.only' ho6) (fun j e => by have := HDD.out.2.2.1.2; have := HV5.out.2.1; omega) fun j hj e => hgF (e ▸ hj)
        have HWQ := Lib.hid (hd6.write (k := (m : Int)) rfl HDD.out.2.2.1.1 (by have := HI.out; omega) HDD.out.1.1 (by rw [HDD.out.2.1]; exact HM.out) hv6.rd (fun j hj e => by injection hj with hj; have hj' : g = j := hj; subst hj'; exact hgF e) (by rw [List.length_set]; exact hv5l.out) (HDD.out.1.err) rfl)
        have HW6 := Lib.hid hw6
        clear hv6 ho6 hgF hd6 hw6 cz5 hkk
        go_wp2_with fail
        rw [← HW6.out]
        refine HWQ.out.mono ?_
        rintro e w7 ⟨rfl, F7, hd7, _⟩
        have HZ7 : Hid (Lz w w7 D sec (4 + (i + 1))) := Lib.hid ⟨F7, _, hd7, HDD.out.1.write _ _, by rw [Dk.write_len]; exact HDD.out.2.1, HDD.out.2.2.1.1.write _ _⟩
        clear hd7 HWQ HW6 HV5 hu5 hf5 hcb5
        go_wp2_with fail
        go_roundg (n1 - (i + 1))
        case rel => exact ⟨i + 1, rfl, HI.out.1, by first | exact next_int (by have := HI.out; omega) | rfl | (congr 1), HZ7⟩
        case measure => have := HI.out.1; omega
      · have HZ2 : Hid (Lz w wr D sec 60) := by
          have hln := HLN.out
          obtain ⟨F2, d, q1, q2, q3, q4⟩ := HZ.out
          exact Lib.hid ⟨F2, d, q1, q2, q3, q4.mono (by omega)⟩
        by_cases hl1 : i < n1
        · have i1 : (i : Int) < (n1 : Int) := by omega
          have d1 : decide ((i : Int) < (n1 : Int)) = true := decide_eq_true i1
          have i2 : ¬ (i : Int) < (n2 : Int) := by omega
          have d2 : decide ((i : Int) < (n2 : Int)) = false := decide_eq_false i2
          clear hlt hi hl1 HZ
          go_wp2_with fail
          go_meet
          case rel => exact HZ2
        · have i1 : ¬ (i : Int) < (n1 : Int) := by omega
          have d1 : decide ((i : Int) < (n1 : Int)) = false := decide_eq_false i1
          clear hlt hi hl1 HZ
          go_wp2_with fail
          go_meet
          case rel => exact HZ2
  case rest =>
  have HZ0 := Lib.hid hcut.out
  clear hcut
  rename World => wd
  have HOP : Hid (Calls Tryz.prog 17 #[.pointer (some ⟨D, 0, none⟩)] wd fun e w' => (∃ c : Int, c ≠ 0 ∧ e = .returned (.tuple #[.pointer none, .int .i64 c]) ∧ Only None' w w') ∨ ∃ P, e = .returned (.tuple #[.pointer (some ⟨P, 0, none⟩), .int .i64 0]) ∧ Gs w w' P sec 0) := by
    obtain ⟨F2, d, q1, q2, q3, q4⟩ := HZ0.out
    exact Lib.hid (gs_open q1 q2 q3 (q4.mono (by decide)) HSEC.out.1 (by have := HSEC.out; omega))
  clear HZ0
  go_wp2_with fail
  refine HOP.out.mono ?_
  rintro e w4 (⟨c, hc, rfl, o4⟩ | ⟨P, rfl, hg⟩)
  · have hcb : (c != 0) = true := by simpa using hc
    have O4 := Lib.hid o4
    clear hc o4 HOP
    go_wp2_with fail
    go_ret
    exact ⟨rfl, O4.out⟩
  · have HG := Lib.hid hg
    clear hg HOP
    go_wp2_with fail
    go_loopg [19] n3 (fun gg t wr => ∃ i : Nat, gg = n3 - i ∧ i ≤ n3 ∧ t = .int .i64 (i : Int) ∧ Hid (Gs w wr P sec i))
    case atStart => exact ⟨0, rfl, Nat.zero_le _, rfl, HG⟩
    case round =>
      clear HG
      obtain ⟨i, rfl, hi, rfl, HA⟩ := hrel
      rename World => wr
      by_cases hlt : i < n3
      · have hil : i < l3.length := by have := HLN.out.2.2.1; omega
        obtain ⟨st, hst⟩ : ∃ st, l3[i]? = some st := ⟨_, List.getElem?_eq_getElem hil⟩
        obtain ⟨g, off, rfl, hgw, c0, c1', c2', c3'⟩ := srow_cells (RD3.out wr HA.out.only) hst
        have c1' : wr.cell? ⟨g, off + i * 4 + 1, none⟩ = some (.int .i64 st.at_) := c1'
        have c2' : wr.cell? ⟨g, off + i * 4 + 2, none⟩ = some (.int .u8 (st.what.toNat : Int)) := c2'
        have HGW : Hid (g < wr.heap.size ∧ g < w.heap.size) := by
          obtain ⟨g4, off4, e, hg4, _⟩ := srow_cells (RD3.out w (Only.refl _ _)) hst
          injection e with e
          injection e with e _ _
          subst e
          exact Lib.hid ⟨hgw, hg4⟩
        have i0 : (0 : Int) ≤ (i : Int) := by omega
        have i1 : (i : Int) < (n3 : Int) := by omega
        have HI := Lib.hid (And.intro hlt HLN.out.2.2.2.2.2)
        have HIL : Hid (i < n3) := Lib.hid hlt
        clear hlt hil hst hi c3' hgw
        by_cases k0 : st.kind = 0
        · have hk0 : (st.kind == 0) = true := by simpa using k0
          clear k0
          have HOP := Lib.hid (gs_alloc HA.out (by have := HI.out; omega) (by have := HSEC.out; omega))
          clear HA
          go_wp2_with fail
          refine HOP.out.mono ?_
          rintro e w5 ⟨⟨v5, rfl⟩, hg5⟩
          have HG5 := Lib.hid hg5
          clear hg5 HOP
          go_wp2_with fail
          go_roundg (n3 - (i + 1))
          case rel => exact ⟨i + 1, rfl, HI.out.1, by first | exact next_int (by have := HI.out.2; have := HI.out.1; omega) | rfl | (congr 1), HG5⟩
          case measure => have := HI.out.1; omega
        have hk0 : (st.kind == 0) = false := by simpa using k0
        clear k0
        by_cases k1 : st.kind = 1
        · have hk1 : (st.kind == 1) = true := by simpa using k1
          clear k1
          have HCB : Hid (∀ w', Only (fun j => w.heap.size ≤ j) wr w' → w'.cell? ⟨g, off + i * 4 + 1, none⟩ = some (.int .i64 st.at_) ∧ w'.cell? ⟨g, off + i * 4 + 2, none⟩ = some (.int .u8 (st.what.toNat : Int))) := Lib.hid fun w' o => by
            have hgw := HGW.out
            exact ⟨(o.cell hgw.1 (by omega) _).trans c1', (o.cell hgw.1 (by omega) _).trans c2'⟩
          have HWR : Hid (∀ w1, Only None' wr w1 → ∀ g5, Vec w1 1 (.slice (some ⟨g5, 0, none⟩) 512 512) 512 (bv (fullB st.what)) → wr.heap.size ≤ g5 → Calls Tryz.prog 14 #[.pointer (some ⟨P, 0, none⟩), .int .i64 st.at_, .slice (some ⟨g5, 0, none⟩) 512 512] w1 fun e w' => ∃ c : Int, e = .returned (.int .i64 c) ∧ Gs w w' P sec (i + 1) ∧ Only (fun j => w.heap.size ≤ j) w1 w') := Lib.hid fun w1 o g5 hv hg => gs_write HA.out (by have := HI.out; omega) (by have := HSEC.out; omega) o hv (fullB_len _) hg st.at_
          obtain ⟨zk, hzk⟩ : ∃ zk, zk = st.kind := ⟨_, rfl⟩
          rw [← hzk] at c0 hk0 hk1
          clear hzk HA
          go_upto_region 31 with fail
          clear c0 c1' c2'
          refine r_begin (S := fun j => w.heap.size ≤ j) (by kernel_rfl) ?_
          have HS := Lib.hid (Only.refl (fun j => w.heap.size ≤ j) wr)
          refine r_take 0 (.pointer (some ⟨P, 0, none⟩)) rfl (by kernel_rfl) (fun _ _ _ h => h) HS.out (YR.pure (by rfl) fun w hw => y_move w rfl rfl) ?_
          simp only [Act.put, zA, zB, zC]
          refine r_take 1 (.slice (some ⟨g, off, none⟩) n3 c3) rfl (by kernel_rfl) (fun _ _ _ h => h) HS.out (YR.pure (by rfl) fun w hw => y_move w rfl rfl) ?_
          simp only [Act.put, zA, zB, zC]
          refine r_take 2 (.int .i64 (i : Int)) rfl (by kernel_rfl) (fun _ _ _ h => h) HS.out (YR.pure (by rfl) fun w hw => y_move w rfl rfl) ?_
          simp only [Act.put, zA, zB, zC]
          refine r_take 3 (.pointer (some ⟨g, off + i * 4, none⟩)) rfl (by kernel_rfl) (fun _ _ _ h => h) HS.out (YR.pure (by rfl) fun w hw => y_idx45 w HIL.out rfl rfl rfl) ?_
          simp only [Act.put, zA, zB, zC]
          refine r_take 4 (.pointer (some ⟨g, off + i * 4 + 1, none⟩)) rfl (by kernel_rfl) (fun _ _ _ h => h) HS.out (YR.pure (by rfl) fun w hw => y_f54_1 w rfl rfl) ?_
          simp only [Act.put, zA, zB, zC]
          refine r_take 5 (.int .i64 st.at_) rfl (by kernel_rfl) (fun _ _ _ h => h) HS.out (YR.pure (by rfl) fun w hw => y_load3 rfl rfl (HCB.out w hw).1) ?_
          simp only [Act.put, zA, zB, zC]
          refine r_take 6 (.slice (some ⟨g, off, none⟩) n3 c3) rfl (by kernel_rfl) (fun _ _ _ h => h) HS.out (YR.pure (by rfl) fun w hw => y_move w rfl rfl) ?_
          simp only [Act.put, zA, zB, zC]
          refine r_take 7 (.int .i64 (i : Int)) rfl (by kernel_rfl) (fun _ _ _ h => h) HS.out (YR.pure (by rfl) fun w hw => y_move w rfl rfl) ?_
          simp only [Act.put, zA, zB, zC]
          refine r_take 8 (.pointer (some ⟨g, off + i * 4, none⟩)) rfl (by kernel_rfl) (fun _ _ _ h => h) HS.out (YR.pure (by rfl) fun w hw => y_idx45 w HIL.out rfl rfl rfl) ?_
          simp only [Act.put, zA, zB, zC]
          refine r_take 9 (.pointer (some ⟨g, off + i * 4 + 2, none⟩)) rfl (by kernel_rfl) (fun _ _ _ h => h) HS.out (YR.pure (by rfl) fun w hw => y_f54_2 w rfl rfl) ?_
          simp only [Act.put, zA, zB, zC]
          refine r_take 10 (.int .u8 (st.what.toNat : Int)) rfl (by kernel_rfl) (fun _ _ _ h => h) HS.out (YR.pure (by rfl) fun w hw => y_load5' rfl rfl (HCB.out w hw).2) ?_
          simp only [Act.put, zA, zB, zC]
          refine r_one 11 rfl (by kernel_rfl) (by rfl) fun wi oi => ?_
          refine wp_enter (y_enter [.int .u8 (st.what.toNat : Int)] rfl (by rfl) (call15_ _) wi) ((full_any st.what wi).mono ?_)
          rintro e wj ⟨g5, rfl, hv5, hg5, oj⟩
          refine ⟨_, rfl, (HS.out.quiet oi).quiet oj, ?_⟩
          simp only [Act.put, zA, zB, zC]
          have HT := Lib.hid ((HS.out.quiet oi).quiet oj)
          have HV5 := Lib.hid (And.intro hv5 (And.intro (Nat.le_trans oi.size hg5) (oi.trans oj)))
          clear hv5 hg5
          clear HS oi oj
          have HS := HT
          clear HT
          refine r_one 12 rfl (by kernel_rfl) (by rfl) fun wi oi => ?_
          refine wp_enter (y_enter [.pointer (some ⟨P, 0, none⟩), .int .i64 st.at_, .slice (some ⟨g5, 0, none⟩) 512 512] rfl (by rfl) (call14_ _) wi) ((HWR.out wi (HV5.out.2.2.trans oi) g5 (HV5.out.1.only oi fun _ _ e => e) HV5.out.2.1).mono ?_)
          rintro e wj ⟨c9, rfl, hp6, oj⟩
          refine ⟨_, rfl, (HS.out.quiet oi).trans oj, ?_⟩
          simp only [Act.put, zA, zB, zC]
          have HT := Lib.hid ((HS.out.quiet oi).trans oj)
          have H7 := Lib.hid hp6
          clear HS oi oj hp6
          have HS := HT
          clear HT
          refine r_done (by kernel_rfl) fun wz oz => ?_
          have HG5 := Lib.hid (H7.out.new oz)
          clear HS oz H7 HWR HV5 HCB
          go_wp2_with fail
          go_roundg (n3 - (i + 1))
          case rel => exact ⟨i + 1, rfl, HI.out.1, by first | exact next_int (by have := HI.out.2; have := HI.out.1; omega) | rfl | (congr 1), HG5⟩
          case measure => have := HI.out.1; omega
        have hk1 : (st.kind == 1) = false := by simpa using k1
        clear k1
        by_cases k2 : st.kind = 2
        · have hk2 : (st.kind == 2) = true := by simpa using k2
          clear k2
          have HOP := Lib.hid (gs_drop HA.out (by have := HI.out; omega) (by have := HSEC.out; omega) st.at_)
          clear HA
          go_wp2_with fail
          refine HOP.out.mono ?_
          rintro e w5 ⟨⟨v5, rfl⟩, hg5⟩
          have HG5 := Lib.hid hg5
          clear hg5 HOP
          go_wp2_with fail
          go_roundg (n3 - (i + 1))
          case rel => exact ⟨i + 1, rfl, HI.out.1, by first | exact next_int (by have := HI.out.2; have := HI.out.1; omega) | rfl | (congr 1), HG5⟩
          case measure => have := HI.out.1; omega
        have hk2 : (st.kind == 2) = false := by simpa using k2
        clear k2
        by_cases k3 : st.kind = 3
        · have hk3 : (st.kind == 3) = true := by simpa using k3
          clear k3
          have HOP := Lib.hid (gs_root HA.out (by have := HI.out; omega) (by have := HSEC.out; omega) st.at_)
          clear HA
          go_wp2_with fail
          refine HOP.out.mono ?_
          rintro e w5 ⟨⟨v5, rfl⟩, hg5⟩
          have HG5 := Lib.hid hg5
          clear hg5 HOP
          go_wp2_with fail
          go_roundg (n3 - (i + 1))
          case rel => exact ⟨i + 1, rfl, HI.out.1, by first | exact next_int (by have := HI.out.2; have := HI.out.1; omega) | rfl | (congr 1), HG5⟩
          case measure => have := HI.out.1; omega
        have hk3 : (st.kind == 3) = false := by simpa using k3
        clear k3
        by_cases k4 : st.kind = 4
        · have hk4 : (st.kind == 4) = true := by simpa using k4
          clear k4
          have HOP := Lib.hid (gs_commit HA.out (by have := HI.out; omega) HSEC.out.1 (by have := HSEC.out; omega))
          clear HA
          go_wp2_with fail
          refine HOP.out.mono ?_
          rintro e w5 ⟨⟨v5, rfl⟩, hg5⟩
          have HG5 := Lib.hid hg5
          clear hg5 HOP
          go_wp2_with fail
          go_roundg (n3 - (i + 1))
          case rel => exact ⟨i + 1, rfl, HI.out.1, by first | exact next_int (by have := HI.out.2; have := HI.out.1; omega) | rfl | (congr 1), HG5⟩
          case measure => have := HI.out.1; omega
        have hk4 : (st.kind == 4) = false := by simpa using k4
        clear k4
        by_cases k5 : st.kind = 5
        · have hk5 : (st.kind == 5) = true := by simpa using k5
          clear k5
          have HOP := Lib.hid (gs_abort HA.out (by have := HI.out; omega) HSEC.out.1 (by have := HSEC.out; omega))
          clear HA
          go_wp2_with fail
          refine HOP.out.mono ?_
          rintro e w5 ⟨⟨v5, rfl⟩, hg5⟩
          have HG5 := Lib.hid hg5
          clear hg5 HOP
          go_wp2_with fail
          go_roundg (n3 - (i + 1))
          case rel => exact ⟨i + 1, rfl, HI.out.1, by first | exact next_int (by have := HI.out.2; have := HI.out.1; omega) | rfl | (congr 1), HG5⟩
          case measure => have := HI.out.1; omega
        have hk5 : (st.kind == 5) = false := by simpa using k5
        clear k5
        by_cases k6 : st.kind = 6
        · have hk6 : (st.kind == 6) = true := by simpa using k6
          clear k6
          have HOP := Lib.hid (gs_settle HA.out (by have := HI.out; omega) HSEC.out.1 (by have := HSEC.out; omega))
          clear HA
          go_wp2_with fail
          refine HOP.out.mono ?_
          rintro e w5 ⟨⟨v5, rfl⟩, hg5⟩
          have HG5 := Lib.hid hg5
          clear hg5 HOP
          go_wp2_with fail
          go_roundg (n3 - (i + 1))
          case rel => exact ⟨i + 1, rfl, HI.out.1, by first | exact next_int (by have := HI.out.2; have := HI.out.1; omega) | rfl | (congr 1), HG5⟩
          case measure => have := HI.out.1; omega
        have hk6 : (st.kind == 6) = false := by simpa using k6
        clear k6
        have HOP := Lib.hid (gs_read HA.out (by have := HI.out; omega) (by have := HSEC.out; omega) st.at_)
        clear HA
        go_wp2_with fail
        refine HOP.out.mono ?_
        rintro e w5 ⟨⟨v5, rfl⟩, hg5⟩
        have HG5 := Lib.hid hg5
        clear hg5 HOP
        go_wp2_with fail
        go_roundg (n3 - (i + 1))
        case rel => exact ⟨i + 1, rfl, HI.out.1, by first | exact next_int (by have := HI.out.2; have := HI.out.1; omega) | rfl | (congr 1), HG5⟩
        case measure => have := HI.out.1; omega
      · have i1 : ¬ (i : Int) < (n3 : Int) := by omega
        have hpg := gs_pages HA.out
        have hse : ((sec - 1 - sec / 4 : Nat) : Int) = (sec : Int) - 1 - (sec : Int) / 4 := by omega
        rw [hse] at hpg
        have HPG := Lib.hid hpg
        have HO := Lib.hid HA.out.only
        clear hi hlt hpg hse HA
        go_wp2_with fail
        refine HPG.out.mono ?_
        rintro e w5 ⟨rfl, rfl⟩
        go_wp2_with fail
        go_ret
        exact ⟨rfl, HO.out⟩
theorem lost_big1 (x : Int) (fm : Bool) (a1 a2 a3 : Option Addr) (n1 c1 n2 c2 n3 c3 : Nat) (w : World) (h1 : 50 < n1) : Calls Tryz.prog 6 #[.int .i64 x, .bool fm, .slice a1 n1 c1, .slice a2 n2 c2, .slice a3 n3 c3] w fun e w' => e = .returned (.bool true) ∧ Only None' w w' := by
  have d1 : (50 : Int) < (n1 : Int) := by omega
  have e1 : decide ((50 : Int) < (n1 : Int)) = true := decide_eq_true d1
  go_enter Tryz.func6, Tryz.ntmps6
  go_wp2_with fail
  refine (works_any w).mono ?_
  rintro e w1 ⟨rfl, o⟩
  have O := Lib.hid o
  clear o
  go_wp2_with fail
  refine (works_any w1).mono ?_
  rintro e w2 ⟨rfl, o⟩
  have O2 := Lib.hid (O.out.trans o)
  clear o
  go_wp2_with fail
  go_ret
  exact ⟨rfl, O2.out⟩
theorem lost_big2 (x : Int) (fm : Bool) (a1 a2 a3 : Option Addr) (n1 c1 n2 c2 n3 c3 : Nat) (w : World) (h1 : n1 ≤ 50) (h2 : 50 < n2) : Calls Tryz.prog 6 #[.int .i64 x, .bool fm, .slice a1 n1 c1, .slice a2 n2 c2, .slice a3 n3 c3] w fun e w' => e = .returned (.bool true) ∧ Only None' w w' := by
  have d1 : ¬ (50 : Int) < (n1 : Int) := by omega
  have e1 : decide ((50 : Int) < (n1 : Int)) = false := decide_eq_false d1
  have d2 : (50 : Int) < (n2 : Int) := by omega
  have e2 : decide ((50 : Int) < (n2 : Int)) = true := decide_eq_true d2
  go_enter Tryz.func6, Tryz.ntmps6
  go_wp2_with fail
  refine (works_any w).mono ?_
  rintro e w1 ⟨rfl, o⟩
  have O := Lib.hid o
  clear o
  go_wp2_with fail
  refine (works_any w1).mono ?_
  rintro e w2 ⟨rfl, o⟩
  have O2 := Lib.hid (O.out.trans o)
  clear o
  go_wp2_with fail
  go_ret
  exact ⟨rfl, O2.out⟩
theorem lost_big3 (x : Int) (fm : Bool) (a1 a2 a3 : Option Addr) (n1 c1 n2 c2 n3 c3 : Nat) (w : World) (h1 : n1 ≤ 50) (h2 : n2 ≤ 50) (h3 : 150 < n3) : Calls Tryz.prog 6 #[.int .i64 x, .bool fm, .slice a1 n1 c1, .slice a2 n2 c2, .slice a3 n3 c3] w fun e w' => e = .returned (.bool true) ∧ Only None' w w' := by
  have d1 : ¬ (50 : Int) < (n1 : Int) := by omega
  have e1 : decide ((50 : Int) < (n1 : Int)) = false := decide_eq_false d1
  have d2 : ¬ (50 : Int) < (n2 : Int) := by omega
  have e2 : decide ((50 : Int) < (n2 : Int)) = false := decide_eq_false d2
  go_enter Tryz.func6, Tryz.ntmps6
  go_wp2_with fail
  refine (works_any w).mono ?_
  rintro e w1 ⟨rfl, o⟩
  have O := Lib.hid o
  clear o
  go_wp2_with fail
  refine (long_yes a3 n3 c3 w1 h3).mono ?_
  rintro e w1' ⟨rfl, rfl⟩
  go_wp2_with fail
  refine (works_any w1).mono ?_
  rintro e w2 ⟨rfl, o⟩
  have O2 := Lib.hid (O.out.trans o)
  clear o
  go_wp2_with fail
  go_ret
  exact ⟨rfl, O2.out⟩
theorem lost_walk (x : Int) (fm : Bool) (v1 v2 v3 : Value) (l1 : List Int) (l2 : List UInt8) (l3 : List Stp) (w : World) (rd1 : Rd w 1 v1 l1.length (l1.map (Value.int .i64))) (rd2 : Rd w 1 v2 l2.length (bv l2)) (rd3 : Rd w 4 v3 l3.length (srow l3)) : Calls Tryz.prog 6 #[.int .i64 x, .bool fm, v1, v2, v3] w fun e w' => e = .returned (.bool true) ∧ Below w.heap.size w w' := by
  obtain ⟨a1, n1, c1, rfl⟩ := rd1.shape'
  obtain ⟨a2, n2, c2, rfl⟩ := rd2.shape'
  obtain ⟨a3, n3, c3, rfl⟩ := rd3.shape'
  have fin : ∀ {e : Ending} {w' : World}, (e = .returned (.bool true) ∧ Only None' w w') → e = .returned (.bool true) ∧ Below w.heap.size w w' := fun h => ⟨h.1, h.2.below (Nat.le_refl _) fun _ e => e.elim⟩
  by_cases h1 : n1 ≤ 50
  · by_cases h2 : n2 ≤ 50
    · by_cases h3 : n3 ≤ 150
      · exact (lost_main x fm a1 a2 a3 n1 c1 n2 c2 n3 c3 l1 l2 l3 w rd1 rd2 rd3 h1 h2 h3).mono fun e w' h => fin h
      · exact (lost_big3 x fm a1 a2 a3 n1 c1 n2 c2 n3 c3 w h1 h2 (by omega)).mono fun e w' h => fin h
    · exact (lost_big2 x fm a1 a2 a3 n1 c1 n2 c2 n3 c3 w h1 (by omega)).mono fun e w' h => fin h
  · exact (lost_big1 x fm a1 a2 a3 n1 c1 n2 c2 n3 c3 w (by omega)).mono fun e w' h => fin h
end Go.Proofs.YteoeaojebklfjaaGreatDoor
