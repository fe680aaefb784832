/- QC in one text. -/
import Derived.Test.YteoeaojebklfjaaGreatDoorV19
namespace Go.Proofs.YteoeaojebklfjaaGreatDoor
open Go.RowKit Go.Maps
set_option linter.unusedVariables false
set_option linter.unusedSimpArgs false
set_option maxRecDepth 20000

structure SyAt (w : World) (L : Lo) (R : Nat) (F : Nat → Prop) (s : Sy) : Prop where
  pg : PgAt w L (.pointer (some ⟨R, 0, none⟩)) s.p
  ring : RingAt w R L.D s.r
  disk : DiskAt w L.D F s.d
  ap : ∀ k, L.own k → ¬ F k
  rp : ¬ L.own R
  rf : ¬ F R
def allS (L : Lo) (R : Nat) (F : Nat → Prop) (k : Nat) : Prop := L.own k ∨ k = R ∨ F k
structure To (w w' : World) (L : Lo) (R : Nat) (F : Nat → Prop) (L' : Lo) (R' : Nat) (F' : Nat → Prop) : Prop where
  P : L'.P = L.P
  D : L'.D = L.D
  only : Only (allS L R F) w w'
  own : ∀ k, L'.own k ∨ k = R' → (L.own k ∨ k = R) ∨ w.heap.size ≤ k
  dsk : ∀ k, F' k → F k ∨ w.heap.size ≤ k
theorem To.kept {w w' : World} {L L' : Lo} {R R' : Nat} {F F' : Nat → Prop} (t : To w w' L R F L' R' F') : Kept (allS L R F) (allS L' R' F') w w' := ⟨t.only, fun k hk => by
  rcases hk with hk | hk | hk
  · rcases t.own k (.inl hk) with (e | e) | e
    · exact .inl (.inl e)
    · exact .inl (.inr (.inl e))
    · exact .inr e
  · rcases t.own k (.inr hk) with (e | e) | e
    · exact .inl (.inl e)
    · exact .inl (.inr (.inl e))
    · exact .inr e
  · exact (t.dsk k hk).imp (fun e => .inr (.inr e)) id⟩
section
variable {w w' : World} {L : Lo} {R : Nat} {F : Nat → Prop} {s : Sy}
theorem SyAt.lt (h : SyAt w L R F s) {k : Nat} (hk : allS L R F k) : k < w.heap.size := by
  rcases hk with hk | rfl | hk
  · exact h.pg.lt hk
  · exact h.ring.lt
  · exact h.disk.lt hk
theorem SyAt.only {S : Nat → Prop} (h : SyAt w L R F s) (o : Only S w w') (hS : ∀ k, allS L R F k → ¬ S k) : SyAt w' L R F s :=
  ⟨h.pg.only o fun k hk => hS k (.inl hk), h.ring.kept o (hS R (.inr (.inl rfl))), h.disk.only o fun k hk => hS k (.inr (.inr hk)), h.ap, h.rp, h.rf⟩
theorem SyAt.new (h : SyAt w L R F s) (o : Only None' w w') : SyAt w' L R F s := h.only o fun _ _ e => e
end
theorem write_any' {w : World} {D : Nat} {F : Nat → Prop} {vb : Value} {d : Dk} {i : Nat} {s : Sec} (h : DiskAt w D F d) (hd : d.dead = false) (hi : i < d.lasts.length) (hb : Rd w 1 vb 512 (bv s)) (hap : ∀ g, vb.ownBlock = some g → ¬ F g) (hs : s.length = 512) {n : Nat} (hf : d.Few n) (hn1 : n ≤ 999999) {c : Int} (hc : (if d.due then 20 else 0) = c) :
    Calls Tryz.prog 29 #[.pointer (some ⟨D, 0, none⟩), .int .i64 (i : Int), vb] w fun r w' => r = .returned (.int .i64 c) ∧ ∃ F', DiskAt w' D F' (d.write i s) ∧ Kept F F' w w' ∧ Only F w w' := by
  subst hc
  exact (write_any h hd hi hb hap hs hf hn1).mono fun r w' ⟨h1, F', h2, h3⟩ => ⟨h1, F', h2, h3, h3.only⟩
structure StLoop (w wr : World) (L : Lo) (F : Nat → Prop) (s : Sy) (n k : Nat) (F' : Nat → Prop) (d' : Dk) : Prop where
  disk : DiskAt wr L.D F' d'
  kept : Kept F F' w wr
  dead : d'.dead = false
  len : d'.lasts.length = s.d.lasts.length
  few : d'.Few (n + k)
  is : layP s.p.first (s.p.dirty.drop k) d' = layP s.p.first s.p.dirty s.d
section
variable {w wr wc : World} {L : Lo} {R : Nat} {F F' F6 : Nat → Prop} {s : Sy} {n k : Nat} {d' : Dk}
theorem StLoop.cons (h : StLoop w wr L F s n k F' d') {q : Nat × Sec} (hq : s.p.dirty[k]? = some q) : s.p.dirty.drop k = q :: s.p.dirty.drop (k + 1) := by
  obtain ⟨hk, rfl⟩ := List.getElem?_eq_some_iff.1 hq
  exact List.drop_eq_getElem_cons hk
theorem StLoop.step (h : StLoop w wr L F s n k F' d') {q : Nat × Sec} (hq : s.p.dirty[k]? = some q) (hl : s.p.first + q.1 < d'.lasts.length) (hdue : d'.due = false) (hd : DiskAt wc L.D F6 (d'.write (s.p.first + q.1) q.2)) (hK : Kept F' F6 wr wc) : StLoop w wc L F s n (k + 1) F6 (d'.write (s.p.first + q.1) q.2) := by
  refine ⟨hd, h.kept.trans hK, Dk.write_live hdue h.dead _ _, by rw [Dk.write_len]; exact h.len, h.few.write _ _, ?_⟩
  have := h.is
  rw [h.cons hq, layP_cons, if_pos hl, hdue, if_neg (by decide)] at this
  exact this
theorem StLoop.burnt (h : StLoop w wr L F s n k F' d') {q : Nat × Sec} (hq : s.p.dirty[k]? = some q) (hl : s.p.first + q.1 < d'.lasts.length) (hdue : d'.due = true) : layP s.p.first s.p.dirty s.d = (20, d'.write (s.p.first + q.1) q.2) := by
  rw [← h.is, h.cons hq, layP_cons, if_pos hl, hdue, if_pos rfl]
theorem StLoop.beyond (h : StLoop w wr L F s n k F' d') {q : Nat × Sec} (hq : s.p.dirty[k]? = some q) (hl : ¬ s.p.first + q.1 < d'.lasts.length) : layP s.p.first s.p.dirty s.d = (1, d') := by
  rw [← h.is, h.cons hq, layP_cons, if_neg hl]
theorem StLoop.all (h : StLoop w wr L F s n k F' d') (hk : s.p.dirty.length ≤ k) : layP s.p.first s.p.dirty s.d = (0, d') := by
  rw [← h.is, List.drop_eq_nil_of_le hk]; rfl
theorem Sy.settle_no {s : Sy} {base : Nat} {c : Int} {d' : Dk} (hc : c ≠ 0) (h : settleD s.p.first s.p.dirty s.d base = (c, d')) : s.settle base = (c, ⟨s.p, s.r, d'⟩) := by
  unfold Sy.settle
  rw [h, if_neg hc]
theorem settleD_no {first : Nat} {l : List (Nat × Sec)} {d d' : Dk} {base : Nat} {c : Int} (hc : c ≠ 0) (h : layP first l d = (c, d')) : settleD first l d base = (c, d') := by
  unfold settleD
  rw [h, if_pos hc]
theorem SyAt.disk' (h : SyAt w L R F s) (hd : DiskAt wc L.D F6 d') (hK : Kept F F6 w wc) : SyAt wc L R F6 ⟨s.p, s.r, d'⟩ ∧ To w wc L R F L R F6 := by
  have hn : ∀ k, L.own k ∨ k = R → ¬ F6 k := fun k hk hF => by
    rcases hK.fresh k hF with e | e
    · rcases hk with hk | rfl
      · exact h.ap k hk e
      · exact h.rf e
    · have : k < w.heap.size := by
        rcases hk with hk | rfl
        · exact h.pg.lt hk
        · exact h.ring.lt
      omega
  refine ⟨⟨h.pg.only hK.only h.ap, h.ring.kept hK.only h.rf, hd, fun k hk => hn k (.inl hk), h.rp, hn R (.inr rfl)⟩, rfl, rfl, hK.only.mono fun k _ e => .inr (.inr e), fun k hk => .inl hk, hK.fresh⟩
end
section
variable {a : Act} {o : Oper} {x : Operand}
theorem y_t0 (w : World) {p q r : Value} (ho : o.op = .extract x 0) (hx : a.eval x = .tuple #[p, q, r]) : (execOp a.eval o).run Tryz.prog w = .ok (.value p) w := by
  unfold execOp
  simp only [ho, hx]
  go_simp
theorem y_t1 (w : World) {p q r : Value} (ho : o.op = .extract x 1) (hx : a.eval x = .tuple #[p, q, r]) : (execOp a.eval o).run Tryz.prog w = .ok (.value q) w := by
  unfold execOp
  simp only [ho, hx]
  go_simp
theorem y_t2 (w : World) {p q r : Value} (ho : o.op = .extract x 2) (hx : a.eval x = .tuple #[p, q, r]) : (execOp a.eval o).run Tryz.prog w = .ok (.value r) w := by
  unfold execOp
  simp only [ho, hx]
  go_simp
end
theorem headR_live {d : Dk} {base : Nat} (hd : d.dead = false) (h : (headR d base).1 = 0) : (headR d base).2.dead = false := by
  unfold headR at h ⊢
  by_cases hdue : d.due = true
  · rw [if_pos hdue] at h; cases h
  · rw [if_neg hdue] at h ⊢
    have hdue : d.due = false := by simpa using hdue
    have h1 := Dk.write_live hdue hd 0 (headB base)
    simp only [Dk.err] at h
    by_cases h2 : (d.write 0 (headB base)).due = true
    · rw [if_pos h2] at h; cases h
    · simp only [Dk.flush]
      rw [if_neg h2]
      exact h1
theorem flush_live {d : Dk} (hd : d.dead = false) (h : d.due = false) : d.flush.dead = false := by
  unfold Dk.flush
  rw [h, if_neg (by decide)]
  exact hd
theorem Dk.flush_len (d : Dk) : d.flush.lasts.length = d.lasts.length := by
  unfold Dk.flush
  split
  · simp [Dk.crashed, Dk.settled, settle_length]
  · simp [Dk.flushed, Dk.settled, settle_length, Dk.tick]
theorem headR_len (d : Dk) (base : Nat) : (headR d base).2.lasts.length = d.lasts.length := by
  unfold headR
  split
  · exact Dk.write_len _ _ _
  · rw [Dk.flush_len, Dk.write_len]
theorem headR_few {d : Dk} {n : Nat} (h : d.Few n) (base : Nat) : (headR d base).2.Few (n + 2) := by
  unfold headR
  split
  · exact (h.write _ _).mono (by omega)
  · exact (h.write _ _).flush
theorem StLoop.write {w wr W : World} {L : Lo} {F F' : Nat → Prop} {s : Sy} {n k : Nat} {d' : Dk} (h : StLoop w wr L F s n k F' d') {q : Nat × Sec} (hq : s.p.dirty[k]? = some q) (hs : q.2.length = 512) (hn : n + k ≤ 900000) (oW : Only None' wr W) {g : Nat} (hv : Vec W 1 (.slice (some ⟨g, 0, none⟩) 512 512) 512 (bv q.2)) (hg : wr.heap.size ≤ g) {i : Nat} (hi : i = s.p.first + q.1) : ∃ c dd, (∀ w', Only None' W w' → Calls Tryz.prog 29 #[.pointer (some ⟨L.D, 0, none⟩), .int .i64 (i : Int), .slice (some ⟨g, 0, none⟩) 512 512] w' fun r w'' => r = .returned (.int .i64 c) ∧ ∃ F6, DiskAt w'' L.D F6 dd ∧ Kept F' F6 w' w'' ∧ Only F' w' w'') ∧
    ((c = 0 ∧ s.p.first + q.1 < d'.lasts.length ∧ d'.due = false ∧ dd = d'.write (s.p.first + q.1) q.2) ∨ (c ≠ 0 ∧ layP s.p.first s.p.dirty s.d = (c, dd))) := by
  subst hi
  have hap : ∀ k, (Value.slice (some ⟨g, 0, none⟩) 512 512).ownBlock = some k → ¬ F' k := fun k hk hF => by
    injection hk with hk
    have hk' : g = k := hk
    have := h.disk.lt hF
    omega
  by_cases hl : s.p.first + q.1 < d'.lasts.length
  · cases hdue : d'.due with
    | true =>
      refine ⟨20, d'.write (s.p.first + q.1) q.2, fun w' o => ?_, .inr ⟨by decide, h.burnt hq hl hdue⟩⟩
      exact write_any' (((h.disk.new oW).new o)) h.dead hl ((hv.only o fun _ _ e => e).rd) hap hs h.few (by omega) (by rw [hdue]; rfl)
    | false =>
      refine ⟨0, d'.write (s.p.first + q.1) q.2, fun w' o => ?_, .inl ⟨rfl, hl, rfl, rfl⟩⟩
      exact write_any' (((h.disk.new oW).new o)) h.dead hl ((hv.only o fun _ _ e => e).rd) hap hs h.few (by omega) (by rw [hdue]; rfl)
  · refine ⟨1, d', fun w' o => ?_, .inr ⟨by decide, h.beyond hq hl⟩⟩
    refine (write_bad ((h.disk.new oW).new o) h.dead _ (some ⟨g, 0, none⟩) 512 512 (.inr (.inl (by omega)))).mono fun r w'' e => ⟨e.1, F', ?_, ?_, ?_⟩
    · rw [e.2]; exact (h.disk.new oW).new o
    · rw [e.2]; exact Kept.refl _ _
    · rw [e.2]; exact Only.refl _ _
def Lo.relaid (L : Lo) (z : Nat) : Lo := { L with Md := z }
theorem settled_at {w : World} {L : Lo} {lg : Value} {p : Pg} (h : PgAt w L lg p) {lg' : Value} {w1 : World} (hw1 : w1 = ((w.alloc (.map #[] 0)).setCell ⟨L.P, 1, none⟩ lg').setCell ⟨L.P, 4, none⟩ (.map (some w.heap.size))) : PgAt w1 (L.relaid w.heap.size) lg' p.settled ∧ Only (fun k => k = L.P) w w1 := by
  have o : Only None' w (w.alloc (.map #[] 0)) := (Only.refl _ _).alloc _
  have m0 := Mp.made w pgE
  have oP : Only (fun k => k = L.P) (w.alloc (.map #[] 0)) w1 := by
    rw [hw1]
    exact ((Only.refl (fun k => k = L.P) _).setCell (p := ⟨L.P, 1, none⟩) rfl _).setCell (p := ⟨L.P, 4, none⟩) rfl _
  have o1 : Only (fun k => k = L.P) w w1 := (o.mono fun _ _ e => e.elim).trans oP
  have h1 := h.lt (.inl rfl)
  have h2 := h.lt (.inr (.inr (.inl rfl)))
  have h3 := h.lt (.inr (.inr (.inr (.inl rfl))))
  have h4 := h.lt (.inr (.inr (.inr (.inr rfl))))
  refine ⟨⟨?_, m0.only oP fun e => by omega, h.now.only o1 fun e => h.ok.pn e.symm, h.idle.only o1 fun e => h.ok.pi e.symm, h.count.only o1 fun e => h.ok.pc e.symm, ?_⟩, o1⟩
  · have := ((h.cells.kept o fun e => e).set (i := 1) (by simp [Pg.vs]) lg').set (i := 4) (by simp [Pg.vs]) (.map (some w.heap.size))
    rw [← hw1] at this
    exact this
  · have := h.ok
    refine ⟨?_, this.pn, this.pi, this.pc, ?_, ?_, ?_, this.ni, this.nc, this.ic⟩ <;> simp only [Lo.relaid, ne_eq] <;> omega
theorem SyAt.settled {w w5 w9 w1 : World} {L : Lo} {R R2 : Nat} {F F7 : Nat → Prop} {s : Sy} {d3 : Dk} {r : Rg} (h : SyAt w L R F s) (hD : DiskAt w5 L.D F7 d3) (hK : Kept F F7 w w5) (o9 : Only None' w5 w9) (hR : RingAt w9 R2 L.D r) (hsz : w5.heap.size ≤ R2) (hlt : R2 < w9.heap.size)
    (hw1 : w1 = ((w9.alloc (.map #[] 0)).setCell ⟨L.P, 1, none⟩ (.pointer (some ⟨R2, 0, none⟩))).setCell ⟨L.P, 4, none⟩ (.map (some w9.heap.size))) : SyAt w1 (L.relaid w9.heap.size) R2 F7 ⟨s.p.settled, r, d3⟩ ∧ To w w1 L R F (L.relaid w9.heap.size) R2 F7 := by
  obtain ⟨h5, t5⟩ := h.disk' hD hK
  have h9 := h5.new o9
  obtain ⟨hp, oP⟩ := settled_at (lg' := .pointer (some ⟨R2, 0, none⟩)) h9.pg hw1
  have hs := hK.only.size
  have s9 := o9.size
  have hPF : ¬ F7 L.P := h5.ap L.P (.inl rfl)
  have hPl := h.pg.cells.lt
  have l9 : ∀ k, F7 k → k < w5.heap.size := fun k hk => h5.disk.lt hk
  refine ⟨⟨hp, hR.kept oP (fun e => by omega), h9.disk.only oP fun k hk e => hPF (e ▸ hk), ?_, ?_, fun hF => by have := l9 _ hF; omega⟩, rfl, rfl, ?_, ?_, t5.dsk⟩
  · rintro k (e | e | e | e | e) hF
    · exact hPF (e ▸ hF)
    · have := l9 _ hF; simp only [Lo.relaid] at e; omega
    · exact h5.ap k (.inr (.inr (.inl e))) hF
    · exact h5.ap k (.inr (.inr (.inr (.inl e)))) hF
    · exact h5.ap k (.inr (.inr (.inr (.inr e)))) hF
  · rintro (e | e | e | e | e)
    · have e' : R2 = L.P := e; omega
    · simp only [Lo.relaid] at e; omega
    · have e' : R2 = L.Mn := e; have := h.pg.lt (.inr (.inr (.inl e'))); omega
    · have e' : R2 = L.Mi := e; have := h.pg.lt (.inr (.inr (.inr (.inl e')))); omega
    · have e' : R2 = L.Mc := e; have := h.pg.lt (.inr (.inr (.inr (.inr e')))); omega
  · refine (t5.only.trans2 o9 fun _ _ e => e.elim).trans2 oP fun k _ e => .inl (.inl e)
  · rintro k (hk | hk)
    · rcases hk with e | e | e | e | e
      · exact .inl (.inl (.inl e))
      · simp only [Lo.relaid] at e; right; omega
      · exact .inl (.inl (.inr (.inr (.inl e))))
      · exact .inl (.inl (.inr (.inr (.inr (.inl e)))))
      · exact .inl (.inl (.inr (.inr (.inr (.inr e)))))
    · right; omega
theorem settleD_flush {first : Nat} {l : List (Nat × Sec)} {d d' : Dk} {base : Nat} (h : layP first l d = (0, d')) (hdue : d'.due = true) : settleD first l d base = (20, d'.flush) := by
  unfold settleD
  rw [h, if_neg (by simp), if_pos hdue]
theorem settleD_head {first : Nat} {l : List (Nat × Sec)} {d d' : Dk} {base : Nat} (h : layP first l d = (0, d')) (hdue : d'.due = false) : settleD first l d base = headR d'.flush base := by
  unfold settleD
  rw [h, if_neg (by simp), if_neg (by rw [hdue]; decide)]
section
variable {w : World} {L : Lo} {R : Nat} {F : Nat → Prop} {s : Sy}
set_option maxHeartbeats 4000000 in
theorem settle_any (h : SyAt w L R F s) (hok : s.p.Ok) (hdd : s.d.dead = false) {n : Nat} (hf : s.d.Few n) (hn : n ≤ 700000) (hl : 8 ≤ s.d.lasts.length) {base : Nat} (hb : base ≤ 4611686018427387904) :
    Calls Tryz.prog 49 #[.pointer (some ⟨L.P, 0, none⟩), .int .i64 (base : Int)] w fun e w' => e = .returned (.int .i64 (s.settle base).1) ∧ ∃ L' R' F', SyAt w' L' R' F' (s.settle base).2 ∧ To w w' L R F L' R' F' := by
  have hmm := @run_makeMap Tryz.prog
  have H := Lib.hid h
  have HOK := Lib.hid (And.intro hok (And.intro hdd (And.intro hf (And.intro hn (And.intro hl hb)))))
  have c4 := h.pg.cells.is 4 _ rfl
  have HSO := Lib.hid (sorted_any h.pg.dirty hok.dl)
  obtain ⟨len, hlen⟩ : ∃ len, len = s.p.dirty.length := ⟨_, rfl⟩
  rw [← hlen] at HSO
  have HLEN := Lib.hid hlen
  have hlen1 : (len : Int) ≤ 100000 := by have := hok.dl; omega
  clear h hok hdd hf hn hl hb hlen
  go_enter Tryz.func49, Tryz.ntmps49
  go_wp2_with fail
  refine (keys_any (some L.Md) w).mono ?_
  rintro e w1 ⟨rfl, rfl⟩
  go_wp2_with fail
  refine HSO.out.mono ?_
  rintro e w2 ⟨v, rfl, hv, hg, o2⟩
  obtain ⟨va, vc, rfl, hvn, hvm⟩ := hv.shape
  have HV := Lib.hid (And.intro hv (And.intro hg o2))
  have HL0 : Hid (StLoop w2 w2 L F s n 0 F s.d) := Lib.hid ⟨H.out.disk.new o2, Kept.refl _ _, HOK.out.2.1, rfl, HOK.out.2.2.1, rfl⟩
  clear hv hg o2 hvn hvm c4
  go_wp2_with fail
  go_loopg [21] len (fun gg t wr => ∃ (k : Nat) (F' : Nat → Prop) (d' : Dk), gg = len - k ∧ k ≤ len ∧ t = .int .i64 (k : Int) ∧ Hid (StLoop w2 wr L F s n k F' d'))
  case atStart => exact ⟨0, F, s.d, rfl, Nat.zero_le _, rfl, HL0⟩
  case round =>
    obtain ⟨k, F', d', rfl, hk, rfl, HLP⟩ := hrel
    have hpg : PgAt wr L (.pointer (some ⟨R, 0, none⟩)) s.p := (H.out.pg.new HV.out.2.2).only HLP.out.kept.only H.out.ap
    by_cases hlt : k < len
    · obtain ⟨q, hq⟩ : ∃ q, s.p.dirty[k]? = some q := ⟨_, List.getElem?_eq_getElem (by rw [← HLEN.out]; exact hlt)⟩
      have hmem : q ∈ s.p.dirty := List.mem_of_getElem? hq
      have hqd := HOK.out.1.dirty q hmem
      have hvr : Vec wr 1 (.slice va len vc) len ((s.p.dirty.map fun p => (p.1 : Int)).map (Value.int .i64)) := HV.out.1.only HLP.out.kept.only fun g hg hF => by
        have h1 := HV.out.2.1 g hg
        have h2 := H.out.disk.lt hF
        omega
      obtain ⟨g, off, rfl, hgl, hcell, -⟩ := hvr.form' (by omega)
      obtain ⟨q1, qs⟩ := q
      have hck : wr.cell? ⟨g, off + k, none⟩ = some (.int .i64 (q1 : Int)) := hcell k _ (by simp [hq])
      have hlook : (Instr.lookup 69 (.map (some L.Md)) (.int .i64 (q1 : Int)) false).run Tryz.prog wr = .ok (.agg (bv qs).toArray) wr := by
        have := hpg.dirty.lookup under69 zeroP (n := q1) (by have := hqd.1; simp only at this; omega)
        rw [look_of_mem hpg.dirty.rise hmem] at this
        exact this
      have c4 := hpg.cells.is 4 _ rfl
      have HL5 := Lib.hid hqd.2
      have hv0 := page_zero wr
      have HV0 := Lib.hid hv0
      obtain ⟨W, hW⟩ : ∃ W, W = (wr.alloc (.cells Tryz.zeroCells74 74)).setCells wr.heap.size 0 (bv qs) := ⟨_, rfl⟩
      have oW : Only None' wr W := by rw [hW]; exact ((Only.refl None' wr).alloc _).trans2 ((Only.refl (fun k => k = wr.heap.size) _).setCells rfl 0 _) fun k hk e => by omega
      have hP := page_stored hv0 hqd.2
      rw [← hW] at hP
      obtain ⟨i, hi⟩ : ∃ i, i = s.p.first + q1 := ⟨_, rfl⟩
      obtain ⟨c, dd, hwr, hcase⟩ := HLP.out.write hq hqd.2 (by have := HOK.out.2.2.2.1; omega) oW hP (Nat.le_refl _) hi
      have HWR := Lib.hid hwr
      have HCASE := Lib.hid hcase
      have HW := Lib.hid hW
      have HOW := Lib.hid oW
      have HI : Hid ((s.p.first : Int) + (q1 : Int) = (i : Int) ∧ i ≤ 20000200000) := Lib.hid ⟨by omega, by have := HOK.out.1.first; have := hqd.1; simp only at this; omega⟩
      have HC : Hid (∀ w', Only F' W w' → CellsR w' L.P (s.p.vs L (.pointer (some ⟨R, 0, none⟩)))) := Lib.hid fun w' o => (hpg.cells.kept oW fun e => e).kept o fun e => by
        rcases HLP.out.kept.fresh _ e with e | e
        · exact H.out.ap _ (.inl rfl) e
        · have := H.out.pg.cells.lt; have := HV.out.2.2.size; omega
      have HQ := Lib.hid hq
      have i1 : (k : Int) < (len : Int) := by omega
      have HK := Lib.hid hlt
      clear hpg hmem hqd hvr hcell hv0 hW oW hP hi hwr hcase hq hlt hk
      go_upto_region 5 with (first | (refine wpList_store_mid rfl 74 _ _ rfl wr.heap.size 0 (bv qs).toArray rfl rfl (set_there HV0.out HL5.out) (size74a qs HL5.out) (all_oneCell_toArray (bv_one qs)) ?_; change wpList _ _ _ _ _ ((wr.alloc (.cells Tryz.zeroCells74 74)).setCells wr.heap.size 0 (bv qs)); rw [← HW.out]; clear HW))
      refine r_begin (S := F') (by kernel_rfl) ?_
      have HS := Lib.hid (Only.refl (F') W)
      refine r_take 0 (.pointer (some ⟨L.P, 0, none⟩)) rfl (by kernel_rfl) (fun _ _ _ h => h) HS.out (YR.pure (by rfl) fun w hw => y_move w rfl rfl) ?_
      simp only [Act.put, zA, zB, zC]
      refine r_take 1 (.pointer (some ⟨L.P, 0, none⟩)) rfl (by kernel_rfl) (fun _ _ _ h => h) HS.out (YR.pure (by rfl) fun w hw => y_nil w rfl rfl) ?_
      simp only [Act.put, zA, zB, zC]
      refine r_take 2 (.pointer (some ⟨L.P, 0, none⟩)) rfl (by kernel_rfl) (fun _ _ _ h => h) HS.out (YR.pure (by rfl) fun w hw => y_f72_0 w rfl rfl) ?_
      simp only [Act.put, zA, zB, zC]
      refine r_take 3 (.pointer (some ⟨L.D, 0, none⟩)) rfl (by kernel_rfl) (fun _ _ _ h => h) HS.out (YR.pure (by rfl) fun w hw => y_load23 rfl rfl ((HC.out w hw).is 0 _ rfl)) ?_
      simp only [Act.put, zA, zB, zC]
      refine r_take 4 (.pointer (some ⟨L.P, 0, none⟩)) rfl (by kernel_rfl) (fun _ _ _ h => h) HS.out (YR.pure (by rfl) fun w hw => y_move w rfl rfl) ?_
      simp only [Act.put, zA, zB, zC]
      refine r_take 5 (.pointer (some ⟨L.P, 0, none⟩)) rfl (by kernel_rfl) (fun _ _ _ h => h) HS.out (YR.pure (by rfl) fun w hw => y_nil w rfl rfl) ?_
      simp only [Act.put, zA, zB, zC]
      refine r_take 6 (.pointer (some ⟨L.P, 2, none⟩)) rfl (by kernel_rfl) (fun _ _ _ h => h) HS.out (YR.pure (by rfl) fun w hw => y_f72_2 w rfl rfl) ?_
      simp only [Act.put, zA, zB, zC]
      refine r_take 7 (.int .i64 (s.p.first : Int)) rfl (by kernel_rfl) (fun _ _ _ h => h) HS.out (YR.pure (by rfl) fun w hw => y_load3 rfl rfl ((HC.out w hw).is 2 _ rfl)) ?_
      simp only [Act.put, zA, zB, zC]
      refine r_take 8 (.int .i64 (q1 : Int)) rfl (by kernel_rfl) (fun _ _ _ h => h) HS.out (YR.pure (by rfl) fun w hw => y_move w rfl rfl) ?_
      simp only [Act.put, zA, zB, zC]
      refine r_take 9 (.int .i64 (i : Int)) rfl (by kernel_rfl) (fun _ _ _ h => h) HS.out (YR.pure (by rfl) fun w hw => y_add3 w HI.out.1 (by have := HI.out.2; omega) (by have := HI.out.2; omega) rfl rfl rfl) ?_
      simp only [Act.put, zA, zB, zC]
      refine r_take 10 (.slice (some ⟨wr.heap.size, 0, none⟩) 512 512) rfl (by kernel_rfl) (fun _ _ _ h => h) HS.out (YR.pure (by rfl) fun w hw => y_all74 w rfl rfl) ?_
      simp only [Act.put, zA, zB, zC]
      refine r_one 11 rfl (by kernel_rfl) (by rfl) fun wi oi => ?_
      refine wp_enter (y_enter [.pointer (some ⟨L.D, 0, none⟩), .int .i64 (i : Int), .slice (some ⟨wr.heap.size, 0, none⟩) 512 512] rfl (by rfl) (call29_ _) wi) ((HWR.out wi oi).mono ?_)
      rintro e wj ⟨rfl, F6, hD6, hK6, oj⟩
      refine ⟨_, rfl, (HS.out.quiet oi).trans oj, ?_⟩
      simp only [Act.put, zA, zB, zC]
      have HT := Lib.hid ((HS.out.quiet oi).trans oj)
      have H6 := Lib.hid (And.intro hD6 ((Kept.new oi).trans hK6))
      clear HS oi oj hD6 hK6
      have HS := HT
      clear HT
      refine r_take 12 (.int .i64 c) rfl (by kernel_rfl) (fun _ _ _ h => h) HS.out (YR.pure (by rfl) fun w hw => y_assign w rfl rfl) ?_
      simp only [Act.put, zA, zB, zC]
      refine r_done (by kernel_rfl) fun wz oz => ?_
      have H7 := Lib.hid (And.intro (H6.out.1.new oz) (((Kept.new HOW.out).trans H6.out.2).trans (Kept.new oz)))
      clear HS oz H6 HC HWR HV0
      generalize wz = w5 at H7 ⊢
      by_cases hc0 : c = 0
      · subst hc0
        have HST : Hid (StLoop w2 w5 L F s n (k + 1) F6 dd) := Lib.hid (by
          rcases HCASE.out with ⟨-, h1, h2, rfl⟩ | ⟨h1, -⟩
          · exact HLP.out.step HQ.out h1 h2 H7.out.1 H7.out.2
          · exact absurd rfl h1)
        clear HCASE
        go_wp2_with fail
        go_roundg (len - (k + 1))
        case rel => exact ⟨k + 1, F6, dd, rfl, HK.out, rfl, HST⟩
        case measure => have := HK.out; omega
      · have HR : Hid (s.settle base = (c, ⟨s.p, s.r, dd⟩)) := Lib.hid (by
          rcases HCASE.out with ⟨h1, -⟩ | ⟨-, h2⟩
          · exact absurd h1 hc0
          · exact Sy.settle_no hc0 (settleD_no hc0 h2))
        have c0 : (c == 0) = false := by simpa using hc0
        clear HCASE hc0
        go_wp2_with fail
        go_ret
        rw [HR.out]
        refine ⟨rfl, L, R, F6, ?_⟩
        exact SyAt.disk' H.out H7.out.1 (((Kept.new HV.out.2.2).trans HLP.out.kept).trans H7.out.2)
    · have HKE := Lib.hid (show len ≤ k by omega)
      have hla := HLP.out.all (by rw [← HLEN.out]; omega)
      have i1 : ¬ (k : Int) < (len : Int) := by omega
      have c0 := hpg.cells.is 0 _ rfl
      have HLA := Lib.hid hla
      have HPG := Lib.hid hpg
      have HKL := Lib.hid hk
      have HK0 := Lib.hid ((Kept.new HV.out.2.2).trans HLP.out.kept)
      cases hdue : d'.due with
      | true =>
        have hfl := flush_any HLP.out.disk HLP.out.dead HLP.out.few (by have := HOK.out.2.2.2.1; have := HOK.out.1.dl; have := HLEN.out; omega)
        rw [hdue] at hfl
        have HF5 := Lib.hid hfl
        have HR : Hid (s.settle base = (20, ⟨s.p, s.r, d'.flush⟩)) := Lib.hid (Sy.settle_no (by decide) (settleD_flush HLA.out hdue))
        clear hpg hlt hla hk hdue hfl
        go_wp2_with fail
        refine HF5.out.mono ?_
        rintro e w5 ⟨rfl, F6, hD6, hK6⟩
        have H7 := Lib.hid (And.intro hD6 hK6)
        clear hD6 hK6
        simp only [if_true]
        go_wp2_with fail
        go_ret
        rw [HR.out]
        refine ⟨rfl, L, R, F6, ?_⟩
        exact SyAt.disk' H.out H7.out.1 (HK0.out.trans H7.out.2)
      | false =>
        have hfl := flush_any HLP.out.disk HLP.out.dead HLP.out.few (by have := HOK.out.2.2.2.1; have := HOK.out.1.dl; have := HLEN.out; omega)
        rw [hdue] at hfl
        have HF5 := Lib.hid hfl
        have HDU := Lib.hid hdue
        clear hpg hlt hla hk hdue hfl
        go_wp2_with fail
        refine HF5.out.mono ?_
        rintro e w5 ⟨rfl, F6, hD6, hK6⟩
        have h5 := (SyAt.disk' H.out hD6 (HK0.out.trans hK6)).1
        have hhd := head_any hD6 (flush_live HLP.out.dead HDU.out) (by rw [Dk.flush_len, HLP.out.len]; have := HOK.out.2.2.2.2.1; omega) HLP.out.few.flush (by have := HOK.out.2.2.2.1; have := HOK.out.1.dl; have := HLEN.out; have := HKL.out; omega) (base := base) (by have := HOK.out.2.2.2.2.2; omega)
        have c0 := h5.pg.cells.is 0 _ rfl
        change w5.cell? ⟨L.P, 0, none⟩ = some (.pointer (some ⟨L.D, 0, none⟩)) at c0
        have H5 := Lib.hid (And.intro h5 (HK0.out.trans hK6))
        obtain ⟨c3, d3, h3⟩ : ∃ c3 d3, headR d'.flush base = (c3, d3) := ⟨_, _, rfl⟩
        have hli := headR_live (base := base) (flush_live HLP.out.dead HDU.out)
        have hle := headR_len d'.flush base
        have hfe := headR_few HLP.out.few.flush base
        rw [h3] at hhd hli hle hfe
        have HH := Lib.hid hhd
        have HH3 := Lib.hid (And.intro h3 (And.intro hli (And.intro hle hfe)))
        clear hD6 hK6 h5 hhd h3 hli hle hfe
        simp only [Bool.false_eq_true, if_false]
        go_wp2_with fail
        refine HH.out.mono ?_
        rintro e w6 ⟨rfl, F7, hD7, hK7⟩
        have H6 := Lib.hid (And.intro hD7 hK7)
        have h6 := (SyAt.disk' H.out hD7 (H5.out.2.trans hK7)).1
        have HS6 := Lib.hid h6
        clear hD7 hK7 c0
        by_cases hc0 : c3 = 0
        · subst hc0
          have HR : Hid (s.settle base = (0, ⟨s.p.settled, Rg.opened 1 (s.d.lasts.length / 4) base (gAt 1 d3), d3⟩)) := Lib.hid (by
            have e := settleD_head (base := base) HLA.out HDU.out
            rw [HH3.out.1] at e
            unfold Sy.settle
            rw [e, if_pos rfl])
          have hdl : d3.lasts.length = s.d.lasts.length := by
            have h1 : d3.lasts.length = d'.flush.lasts.length := HH3.out.2.2.1
            rw [Dk.flush_len, HLP.out.len] at h1
            exact h1
          obtain ⟨q, hq⟩ : ∃ q, q = s.d.lasts.length / 4 := ⟨_, rfl⟩
          have HQ := Lib.hid hq
          have hl8 := HOK.out.2.2.2.2.1
          have HPL : Hid (∀ w', Only None' w6 w' → Calls Tryz.prog 55 #[.pointer (some ⟨L.D, 0, none⟩)] w' fun e w'' => e = .returned (.int .i64 (q : Int)) ∧ w' = w'') := Lib.hid fun w' o => by
            have := places_any (HS6.out.disk.new o)
            rw [hdl, ← hq] at this
            exact this
          have HRO : Hid (∀ w', Only None' w6 w' → Calls Tryz.prog 54 #[.pointer (some ⟨L.D, 0, none⟩), .int .i64 1, .int .i64 (q : Int), .int .i64 (base : Int)] w' fun e w'' => ∃ R2 v2, e = .returned (.tuple #[.pointer (some ⟨R2, 0, none⟩), v2, .int .i64 0]) ∧ w'.heap.size ≤ R2 ∧ RingAt w'' R2 L.D (Rg.opened 1 q base (gAt 1 d3)) ∧ Only None' w' w'') := Lib.hid fun w' o => by
            have := ropen_any (HS6.out.disk.new o) (HH3.out.2.1 rfl) (by have := HH3.out.2.2.2.waits; have := HOK.out.2.2.2.1; have := HOK.out.1.dl; have := HLEN.out; have := HKL.out; simp only at *; omega) (first := 1) (count := q) (base := base) (by omega) (by show 1 + q ≤ d3.lasts.length; omega) HOK.out.2.2.2.2.2
            exact this.mono fun e w'' ⟨R2, v2, h1, h2, h3, _, h5⟩ => ⟨R2, v2, h1, h2, h3, h5⟩
          have HC : Hid (∀ w', Only None' w6 w' → CellsR w' L.P (s.p.vs L (.pointer (some ⟨R, 0, none⟩)))) := Lib.hid fun w' o => HS6.out.pg.cells.kept o fun e => e
          clear h6 hdl hq hl8
          go_upto_region 15 with fail
          refine r_begin (S := None') (by kernel_rfl) ?_
          have HS := Lib.hid (Only.refl (None') w6)
          refine r_take 0 (.pointer (some ⟨L.P, 0, none⟩)) rfl (by kernel_rfl) (fun _ _ _ h => h) HS.out (YR.pure (by rfl) fun w hw => y_move w rfl rfl) ?_
          simp only [Act.put, zA, zB, zC]
          refine r_take 1 (.pointer (some ⟨L.P, 0, none⟩)) rfl (by kernel_rfl) (fun _ _ _ h => h) HS.out (YR.pure (by rfl) fun w hw => y_nil w rfl rfl) ?_
          simp only [Act.put, zA, zB, zC]
          refine r_take 2 (.pointer (some ⟨L.P, 0, none⟩)) rfl (by kernel_rfl) (fun _ _ _ h => h) HS.out (YR.pure (by rfl) fun w hw => y_f72_0 w rfl rfl) ?_
          simp only [Act.put, zA, zB, zC]
          refine r_take 3 (.pointer (some ⟨L.D, 0, none⟩)) rfl (by kernel_rfl) (fun _ _ _ h => h) HS.out (YR.pure (by rfl) fun w hw => y_load23 rfl rfl ((HC.out w hw).is 0 _ rfl)) ?_
          simp only [Act.put, zA, zB, zC]
          refine r_take 4 (.pointer (some ⟨L.P, 0, none⟩)) rfl (by kernel_rfl) (fun _ _ _ h => h) HS.out (YR.pure (by rfl) fun w hw => y_move w rfl rfl) ?_
          simp only [Act.put, zA, zB, zC]
          refine r_take 5 (.pointer (some ⟨L.P, 0, none⟩)) rfl (by kernel_rfl) (fun _ _ _ h => h) HS.out (YR.pure (by rfl) fun w hw => y_nil w rfl rfl) ?_
          simp only [Act.put, zA, zB, zC]
          refine r_take 6 (.pointer (some ⟨L.P, 0, none⟩)) rfl (by kernel_rfl) (fun _ _ _ h => h) HS.out (YR.pure (by rfl) fun w hw => y_f72_0 w rfl rfl) ?_
          simp only [Act.put, zA, zB, zC]
          refine r_take 7 (.pointer (some ⟨L.D, 0, none⟩)) rfl (by kernel_rfl) (fun _ _ _ h => h) HS.out (YR.pure (by rfl) fun w hw => y_load23 rfl rfl ((HC.out w hw).is 0 _ rfl)) ?_
          simp only [Act.put, zA, zB, zC]
          refine r_take 8 (.int .i64 (q : Int)) rfl (by kernel_rfl) (fun _ _ _ h => h) HS.out (YR.call (by rfl) (fun w => y_enter [.pointer (some ⟨L.D, 0, none⟩)] rfl (by rfl) (call55_ _) w) fun w hw => (HPL.out w hw).mono fun e w2 h => ⟨h.1, by rw [h.2]; exact Only.refl _ _⟩) ?_
          simp only [Act.put, zA, zB, zC]
          refine r_take 9 (.int .i64 (base : Int)) rfl (by kernel_rfl) (fun _ _ _ h => h) HS.out (YR.pure (by rfl) fun w hw => y_move w rfl rfl) ?_
          simp only [Act.put, zA, zB, zC]
          refine r_one 10 rfl (by kernel_rfl) (by rfl) fun wi oi => ?_
          refine wp_enter (y_enter [.pointer (some ⟨L.D, 0, none⟩), .int .i64 1, .int .i64 (q : Int), .int .i64 (base : Int)] rfl (by rfl) (call54_ _) wi) ((HRO.out wi oi).mono ?_)
          rintro e wj ⟨R2, v2, rfl, hsz, hrg, oj⟩
          refine ⟨_, rfl, (HS.out.quiet oi).quiet oj, ?_⟩
          simp only [Act.put, zA, zB, zC]
          have HT := Lib.hid ((HS.out.quiet oi).quiet oj)
          have HRG := Lib.hid (And.intro (Nat.le_trans oi.size hsz) hrg)
          clear hsz hrg
          clear HS oi oj
          have HS := HT
          clear HT
          refine r_take 11 (.tuple #[.pointer (some ⟨R2, 0, none⟩), v2, .int .i64 0]) rfl (by kernel_rfl) (fun _ _ _ h => h) HS.out (YR.pure (by rfl) fun w hw => y_move w rfl rfl) ?_
          simp only [Act.put, zA, zB, zC]
          refine r_take 12 (.pointer (some ⟨R2, 0, none⟩)) rfl (by kernel_rfl) (fun _ _ _ h => h) HS.out (YR.pure (by rfl) fun w hw => y_t0 w rfl rfl) ?_
          simp only [Act.put, zA, zB, zC]
          refine r_take 13 (v2) rfl (by kernel_rfl) (fun _ _ _ h => h) HS.out (YR.pure (by rfl) fun w hw => y_t1 w rfl rfl) ?_
          simp only [Act.put, zA, zB, zC]
          refine r_take 14 (.int .i64 0) rfl (by kernel_rfl) (fun _ _ _ h => h) HS.out (YR.pure (by rfl) fun w hw => y_t2 w rfl rfl) ?_
          simp only [Act.put, zA, zB, zC]
          refine r_take 15 (.pointer (some ⟨R2, 0, none⟩)) rfl (by kernel_rfl) (fun _ _ _ h => h) HS.out (YR.pure (by rfl) fun w hw => y_assign w rfl rfl) ?_
          simp only [Act.put, zA, zB, zC]
          refine r_take 16 (v2) rfl (by kernel_rfl) (fun _ _ _ h => h) HS.out (YR.pure (by rfl) fun w hw => y_assign w rfl rfl) ?_
          simp only [Act.put, zA, zB, zC]
          refine r_take 17 (.int .i64 0) rfl (by kernel_rfl) (fun _ _ _ h => h) HS.out (YR.pure (by rfl) fun w hw => y_assign w rfl rfl) ?_
          simp only [Act.put, zA, zB, zC]
          refine r_done (by kernel_rfl) fun wz oz => ?_
          have HO9 := Lib.hid (And.intro (HS.out.trans oz) (And.intro HRG.out.1 (HRG.out.2.kept oz fun e => e)))
          have hcA := (HS6.out.pg.cells.kept (HO9.out.1) fun e => e).kept ((Only.refl None' wz).alloc (.map #[] 0)) fun e => e
          have hcB := hcA.set (i := 1) (by simp [Pg.vs]) (.pointer (some ⟨R2, 0, none⟩))
          have f1 := hcA.thaw 1
          have c1 := hcA.is 1 _ rfl
          have f4 := hcB.thaw 4
          have c4 := hcB.is 4 _ rfl
          clear HS oz HRG HC HPL HRO hcA hcB
          generalize wz = w9 at HO9 f1 c1 f4 c4 ⊢
          go_wp2_with fail
          go_ret
          rw [HR.out, ← HQ.out]
          exact ⟨rfl, L.relaid w9.heap.size, R2, F7, H.out.settled H6.out.1 (H5.out.2.trans H6.out.2) HO9.out.1 HO9.out.2.2 HO9.out.2.1 HO9.out.2.2.lt rfl⟩
        · have HR : Hid (s.settle base = (c3, ⟨s.p, s.r, d3⟩)) := Lib.hid (Sy.settle_no hc0 (by rw [settleD_head HLA.out HDU.out, HH3.out.1]))
          have c0 : (c3 == 0) = false := by simpa using hc0
          clear hc0 h6
          go_wp2_with fail
          go_ret
          rw [HR.out]
          refine ⟨rfl, L, R, F7, ?_⟩
          exact SyAt.disk' H.out H6.out.1 (H5.out.2.trans H6.out.2)
end
end Go.Proofs.YteoeaojebklfjaaGreatDoor
