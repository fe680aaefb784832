/- QG in one text. -/
import Derived.Test.YteoeaojebklfjaaGreatDoorV21
namespace Go.Proofs.YteoeaojebklfjaaGreatDoor
open Go.RowKit Go.Maps
set_option linter.unusedVariables false
set_option linter.unusedSimpArgs false
set_option maxRecDepth 20000

theorem To.stay {w w' : World} {L L' : Lo} {R R' : Nat} {F F' : Nat → Prop} (t : To w w' L R F L' R' F') {g : Nat} (hg : g < w.heap.size) (hn : ¬ allS L R F g) : ¬ allS L' R' F' g := fun h => (t.kept.fresh g h).elim hn fun e => by omega
theorem To.trans {a b c : World} {L L' L2 : Lo} {R R' R2 : Nat} {F F' F2 : Nat → Prop} (h : To a b L R F L' R' F') (k : To b c L' R' F' L2 R2 F2) : To a c L R F L2 R2 F2 := ⟨k.P.trans h.P, k.D.trans h.D, (h.kept.trans k.kept).only, fun x hx => by
  have hs := h.only.size
  rcases k.own x hx with e | e
  · exact h.own x e
  · right; omega, fun x hx => by
  have hs := h.only.size
  rcases k.dsk x hx with e | e
  · exact h.dsk x e
  · right; omega⟩
theorem To.new {w w' : World} {L : Lo} {R : Nat} {F : Nat → Prop} (o : Only None' w w') : To w w' L R F L R F := ⟨rfl, rfl, o.mono fun _ _ e => e.elim, fun k hk => .inl hk, fun k hk => .inl hk⟩
theorem To.owns {w w' : World} {L : Lo} {R : Nat} {F : Nat → Prop} {S : Nat → Prop} (o : Only S w w') (hS : ∀ k, S k → allS L R F k) : To w w' L R F L R F := ⟨rfl, rfl, o.mono fun k _ e => hS k e, fun k hk => .inl hk, fun k hk => .inl hk⟩
theorem SyAt.setNow {w w' : World} {L : Lo} {R : Nat} {F : Nat → Prop} {s : Sy} (h : SyAt w L R F s) {l : List (Nat × Sec)} (hm : Mp pgE w' L.Mn l) (o : Only (fun k => k = L.Mn) w w') : SyAt w' L R F ⟨{ s.p with now := l }, s.r, s.d⟩ :=
  ⟨⟨h.pg.cells.kept o fun e => h.pg.ok.pn e, h.pg.dirty.only o fun e => h.pg.ok.dn e, hm, h.pg.idle.only o fun e => h.pg.ok.ni e.symm, h.pg.count.only o fun e => h.pg.ok.nc e.symm, h.pg.ok⟩,
    h.ring.kept o fun e => h.rp (.inr (.inr (.inl e))), h.disk.only o fun k hk e => h.ap k (.inr (.inr (.inl e))) hk, h.ap, h.rp, h.rf⟩
theorem SyAt.setDirty {w w' : World} {L : Lo} {R : Nat} {F : Nat → Prop} {s : Sy} (h : SyAt w L R F s) {l : List (Nat × Sec)} (hm : Mp pgE w' L.Md l) (o : Only (fun k => k = L.Md) w w') : SyAt w' L R F ⟨{ s.p with dirty := l }, s.r, s.d⟩ :=
  ⟨h.pg.setDirty hm o, h.ring.kept o fun e => h.rp (.inr (.inl e)), h.disk.only o fun k hk e => h.ap k (.inr (.inl e)) hk, h.ap, h.rp, h.rf⟩
theorem wpList_delete69 {w : World} {ops : Array Oper} {rest : List Oper} {o : Oper} {a : Act} {Q : Exit → Act → World → Prop} (hgd : o.guard = none) (x y : Operand) (ho : o.op = .call { callee := .builtin .delete, args := #[x, y], argTypes := #[69, 3] }) (b n : Nat) (l : List (Nat × Sec)) (hx : a.eval x = .map (some b)) (hy : a.eval y = .int .i64 (n : Int))
    (h : Mp pgE w b l) (hn : n ≤ 100000000000)
    (hK : ∀ w', Mp pgE w' b (kDel l n) → Only (fun k => k = b) w w' → wpList Tryz.prog ops Q rest (a.put o.dst (.tuple #[])) w') : wpList Tryz.prog ops Q (o :: rest) a w := by
  refine wpList_plain hgd fun K hK2 => ?_
  obtain ⟨w', h1, h2, h3⟩ := h.delete under69 hn o.type
  unfold Oper.wp execOp
  simp only [ho, resolve, invoke, builtin, Sem.run_bind, Sem.run_pure, Result.andThen_ok, List.map_toArray, List.map_cons, List.map_nil, hx, hy, h1]
  exact hK2 _ _ (hK _ h2 h3)
theorem ins_zero (x : Sec) (l : List (Nat × Sec)) : ∃ t, ins 0 x l = (0, x) :: t := by
  cases l with
  | nil => exact ⟨[], rfl⟩
  | cons p l =>
    unfold ins
    by_cases h : 0 < p.1
    · rw [if_pos h]; exact ⟨_, rfl⟩
    · rw [if_neg h, if_pos (by omega)]; exact ⟨_, rfl⟩
theorem recG_pos {l : List (Nat × Sec)} (h : l ≠ []) : 0 < (recG l).length := by
  cases l with
  | nil => exact absurd rfl h
  | cons q l =>
    unfold recG recOneG
    rw [List.flatMap_cons]
    simp only [List.length_append]
    have := uv_pos (trimR q.2).length
    omega
structure CmLoop (W wr : World) (l : List (Nat × Sec)) (k : Nat) (v : Value) : Prop where
  row : Vec wr 1 v (recG (l.take k)).length (bv (recG (l.take k)))
  fresh : ∀ g, v.ownBlock = some g → W.heap.size ≤ g
  only : Only None' W wr
theorem CmLoop.next {W wr wc : World} {l : List (Nat × Sec)} {k : Nat} {v v2 : Value} (h : CmLoop W wr l k v) {q : Nat × Sec} (hq : l[k]? = some q) (o : Only None' wr wc) {n : Nat} (hn : n = (recG (l.take k)).length + (uvM q.1).length + (uv (trimR q.2).length).length + (trimR q.2).length)
    (hv : Vec wc 1 v2 n (bv (recG (l.take k) ++ uvM q.1 ++ (uv (trimR q.2).length ++ trimR q.2)))) (hf : ∀ g, v2.ownBlock = some g → wr.heap.size ≤ g) : CmLoop W wc l (k + 1) v2 := by
  obtain ⟨hk, rfl⟩ := List.getElem?_eq_some_iff.1 hq
  have e : recG (l.take (k + 1)) = recG (l.take k) ++ uvM l[k].1 ++ (uv (trimR l[k].2).length ++ trimR l[k].2) := by
    rw [List.take_add_one, List.getElem?_eq_getElem hk]
    show recG (l.take k ++ [l[k]]) = _
    rw [recG_snoc]
    unfold recOneG
    simp only [List.append_assoc]
  refine ⟨?_, fun g hg => Nat.le_trans h.only.size (hf g hg), h.only.trans o⟩
  rw [e]
  have e2 : (recG (l.take k) ++ uvM l[k].1 ++ (uv (trimR l[k].2).length ++ trimR l[k].2)).length = n := by
    rw [hn]
    simp only [List.length_append]
    omega
  rw [e2]
  exact hv
theorem log_p (s : Sy) (rec : Rec) : (s.log rec).2.p = s.p ∨ (s.log rec).2.p = s.p.settled := by
  unfold Sy.log Sy.append
  split
  · split
    · right
      rename_i h
      unfold Sy.settle at h ⊢
      split
      · rfl
      · rename_i h2
        rw [if_neg h2] at h
        exact absurd h h2
    · left
      rename_i h
      unfold Sy.settle at h ⊢
      split
      · rename_i h2
        rw [if_pos h2] at h
        exact absurd rfl h
      · rfl
  · exact .inl rfl
theorem settle_few {s : Sy} {n base : Nat} (h : s.d.Few n) : (s.settle base).2.d.Few (n + s.p.dirty.length + 3) := by
  have := settleD_few (first := s.p.first) (base := base) (l := s.p.dirty) h
  unfold Sy.settle
  split <;> exact this
theorem settle_len {s : Sy} {base : Nat} : (s.settle base).2.d.lasts.length = s.d.lasts.length := by
  have := settleD_len (first := s.p.first) (base := base) (l := s.p.dirty) (d := s.d)
  unfold Sy.settle
  split <;> exact this
theorem settle_live {s : Sy} {base : Nat} (hd : s.d.dead = false) (h : (s.settle base).1 = 0) : (s.settle base).2.d.dead = false := by
  unfold Sy.settle at h ⊢
  split
  · rename_i h2; exact settleD_live hd h2
  · rename_i h2; rw [if_neg h2] at h; exact absurd h h2
theorem settle_good {s : Sy} {base : Nat} (h : (s.settle base).1 = 0) : (s.settle base).2.p = s.p.settled ∧ (s.settle base).2.r = Rg.opened 1 (s.d.lasts.length / 4) base (gAt 1 (s.settle base).2.d) := by
  unfold Sy.settle at h ⊢
  split
  · exact ⟨rfl, rfl⟩
  · rename_i h2; rw [if_neg h2] at h; exact absurd h h2
theorem log_few {s : Sy} {n : Nat} (h : s.d.Few n) (rec : Rec) : (s.log rec).2.d.Few (n + s.p.dirty.length + 3 + 2 * cutN rec.length) := by
  have h1 := appR_few (r := s.r) h rec
  unfold Sy.log Sy.append
  split
  · have h2 := settle_few (s := ⟨s.p, (appR s.r s.d rec).2.1, (appR s.r s.d rec).2.2⟩) (base := (appR s.r s.d rec).2.1.top) h1
    split
    · exact (appR_few h2 rec).mono (by simp only; omega)
    · exact h2.mono (by simp only; omega)
  · exact h1.mono (by omega)
theorem log_live {s : Sy} {rec : Rec} (hd : s.d.dead = false) (h : (s.log rec).1 = 0) : (s.log rec).2.d.dead = false := by
  unfold Sy.log Sy.append at h ⊢
  split
  · rename_i h3
    rw [if_pos h3] at h
    split
    · rename_i h4
      rw [if_pos h4] at h
      exact appR_live (settle_live (appR_live hd (by simp only at h3; rw [h3]; decide)) h4) (by simp only at h; rw [h]; decide)
    · rename_i h4
      rw [if_neg h4] at h
      exact absurd h h4
  · rename_i h3
    rw [if_neg h3] at h
    exact appR_live hd (by simp only at h; rw [h]; decide)
def Lo.clean (L : Lo) (z : Nat) : Lo := { L with Mn := z, Mc := z + 1 }
theorem done_at {w : World} {L : Lo} {lg : Value} {p : Pg} {m : Meta} (h : PgAt w L lg p) (hm : p.m = m) {w1 : World} (hw1 : w1 = ((((w.alloc (.map #[] 0)).alloc (.map #[] 0)).setCells L.P 6 m.vs).setCell ⟨L.P, 5, none⟩ (.map (some w.heap.size))).setCell ⟨L.P, 15, none⟩ (.map (some (w.heap.size + 1)))) : PgAt w1 (L.clean w.heap.size) lg { p with kept := p.m, now := [], count := [] } ∧ Only (fun k => k = L.P) w w1 := by
  subst hm
  have o : Only None' w ((w.alloc (.map #[] 0)).alloc (.map #[] 0)) := ((Only.refl _ _).alloc _).alloc _
  have m0 := Mp.made w pgE
  have m1 := Mp.made (w.alloc (.map #[] 0)) mkE
  have e1 : (w.alloc (.map #[] 0)).heap.size = w.heap.size + 1 := by simp
  rw [e1] at m1
  have oP : Only (fun k => k = L.P) ((w.alloc (.map #[] 0)).alloc (.map #[] 0)) w1 := by
    rw [hw1]
    exact (((Only.refl (fun k => k = L.P) _).setCells rfl _ _).setCell (p := ⟨L.P, 5, none⟩) rfl _).setCell (p := ⟨L.P, 15, none⟩) rfl _
  have o1 : Only (fun k => k = L.P) w w1 := (o.mono fun _ _ e => e.elim).trans oP
  have hlt := h.cells.lt
  have hld := h.dirty.lt
  have hli := h.idle.lt
  refine ⟨⟨?_, h.dirty.only o1 fun e => h.ok.pd e.symm, (m0.new ((Only.refl None' _).alloc _)).only oP fun e => by omega, h.idle.only o1 fun e => h.ok.pi e.symm, m1.only oP fun e => by omega, ?_⟩, o1⟩
  · have := (((h.cells.kept o fun e => e).puts p.m.vs 6 _ _ (by simp [Pg.vs, Meta.vs])).set (i := 5) (by simp [Pg.vs, Meta.vs]) (.map (some w.heap.size))).set (i := 15) (by simp [Pg.vs, Meta.vs]) (.map (some (w.heap.size + 1)))
    rw [← hw1] at this
    exact this
  · have := h.ok
    refine ⟨this.pd, ?_, this.pi, ?_, ?_, this.di, ?_, ?_, ?_, ?_⟩ <;> simp only [Lo.clean, ne_eq] <;> omega
theorem SyAt.done {w w1 : World} {L : Lo} {R : Nat} {F : Nat → Prop} {s : Sy} {m : Meta} (h : SyAt w L R F s) (hm : s.p.m = m) (hw1 : w1 = ((((w.alloc (.map #[] 0)).alloc (.map #[] 0)).setCells L.P 6 m.vs).setCell ⟨L.P, 5, none⟩ (.map (some w.heap.size))).setCell ⟨L.P, 15, none⟩ (.map (some (w.heap.size + 1)))) : SyAt w1 (L.clean w.heap.size) R F ⟨{ s.p with kept := s.p.m, now := [], count := [] }, s.r, s.d⟩ ∧ To w w1 L R F (L.clean w.heap.size) R F := by
  obtain ⟨h1, o1⟩ := done_at h.pg hm hw1
  have hl := fun k hk => h.disk.lt (k := k) hk
  have hR := h.ring.lt
  refine ⟨⟨h1, h.ring.kept o1 fun e => h.rp (.inl e), h.disk.only o1 fun k hk e => h.ap k (.inl e) hk, ?_, ?_, h.rf⟩, rfl, rfl, o1.mono fun k _ e => .inl (.inl e), ?_, fun k hk => .inl hk⟩
  · rintro k (e | e | e | e | e) hF
    · exact h.ap k (.inl e) hF
    · exact h.ap k (.inr (.inl e)) hF
    · have := hl _ hF; simp only [Lo.clean] at e; omega
    · exact h.ap k (.inr (.inr (.inr (.inl e)))) hF
    · have := hl _ hF; simp only [Lo.clean] at e; omega
  · rintro (e | e | e | e | e)
    · exact h.rp (.inl e)
    · exact h.rp (.inr (.inl e))
    · simp only [Lo.clean] at e; omega
    · exact h.rp (.inr (.inr (.inr (.inl e))))
    · simp only [Lo.clean] at e; omega
  · rintro k (hk | hk)
    · rcases hk with e | e | e | e | e
      · exact .inl (.inl (.inl e))
      · exact .inl (.inl (.inr (.inl e)))
      · simp only [Lo.clean] at e; right; omega
      · exact .inl (.inl (.inr (.inr (.inr (.inl e)))))
      · simp only [Lo.clean] at e; right; omega
    · exact .inl (.inr hk)
theorem cutN_le {m b : Nat} (h : m ≤ b) : cutN m ≤ b / 501 + 1 := by
  unfold cutN
  split <;> omega
theorem log_same {s : Sy} {rec : Rec} {c : Int} {s2 : Sy} (h : s.log rec = (c, s2)) : s2.p.m = s.p.m ∧ s2.p.now = s.p.now ∧ (s2.p.dirty = s.p.dirty ∨ s2.p.dirty = []) ∧ s2.p.done = { s2.p with dirty := ins 0 s.p.m.page (insL s.p.now s2.p.dirty), kept := s.p.m, now := [], count := [] } := by
  have := log_p s rec
  rw [h] at this
  rcases this with e | e
  · have e' : s2.p = s.p := e
    rw [e']
    exact ⟨rfl, rfl, .inl rfl, rfl⟩
  · have e' : s2.p = s.p.settled := e
    rw [e']
    exact ⟨rfl, rfl, .inr rfl, rfl⟩
theorem finish_bad {c c3 : Int} {s2 s3 : Sy} (h : (c ≠ 0 ∧ c3 = c ∧ s3 = s2) ∨ (c = 0 ∧ c3 = s2.d.err ∧ s3 = ⟨s2.p, s2.r, s2.d.flush⟩)) (h3 : c3 ≠ 0) : Sy.finish (c, s2) = (c3, s3) := by
  unfold Sy.finish
  rcases h with ⟨h1, rfl, rfl⟩ | ⟨rfl, rfl, rfl⟩
  · rw [if_pos h1]
  · rw [if_neg (by simp), if_pos h3]
theorem finish_good {c c3 : Int} {s2 s3 : Sy} (h : (c ≠ 0 ∧ c3 = c ∧ s3 = s2) ∨ (c = 0 ∧ c3 = s2.d.err ∧ s3 = ⟨s2.p, s2.r, s2.d.flush⟩)) (h3 : c3 = 0) : Sy.finish (c, s2) = (0, ⟨s3.p.done, s3.r, s3.d⟩) ∧ s3.p = s2.p := by
  unfold Sy.finish
  rcases h with ⟨h1, rfl, rfl⟩ | ⟨rfl, rfl, rfl⟩
  · exact absurd h3 h1
  · rw [if_neg (by simp), if_neg (by simpa using h3)]
    exact ⟨rfl, rfl⟩
end Go.Proofs.YteoeaojebklfjaaGreatDoor
