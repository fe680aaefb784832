/- RingCrashes: the state, and its steps. -/
import Derived.Test.YteoeaojebklfjaaCA
import Derived.Test.YteoeaojebklfjaaH8
namespace Go.Proofs.Yteoeaojebklfjaa
open Go.RowKit Go.Maps
set_option linter.unusedVariables false

/-! ### an append: in place, or anew -/
section
variable {P : Program} (w : World)
theorem run_append_two (t ty e : TypeId) (i : TypeInfo) (z : Value) (size bytes : Nat) (ht : P.underlying t = some (.slice e)) (hi : P.info? e = some i) (hz : i.zero = some z)
    (hsize : i.size = size) (hby : i.bytes = bytes) (hzs : z.cells.size = size) (hsz : 0 < size)
    (v : Value) (n : Nat) (xs : List Value) (hv : Vec w size v n xs)
    (a : Addr) (m c : Nat) (news : List Value) (hl : news.length = m * size) (hnews : ∀ j u, news[j]? = some u → w.cell? (a.add j) = some u) (h1 : ∀ u ∈ news, u.oneCell' = true)
    (h63 : n + m ≤ maxLen) (hbytes : (n + m) * bytes ≤ 140737488355328) :
    ∃ v' w', (Builtin.append_ #[t, t] ty #[v, .slice (some a) m c]).run P w = .ok v' w' ∧ Vec w' size v' (n + m) (xs ++ news) ∧
      ((∃ ad c, v = .slice (some ad) n c ∧ v' = .slice (some ad) (n + m) c ∧ w.grownBy w' v.ownBlock) ∨ (Only None' w w' ∧ ∀ k, v'.ownBlock = some k → w.heap.size ≤ k)) := by
  rcases hv.form with ⟨rfl, rfl⟩ | ⟨g, off, cap, rfl, h2, h3, h4, h5, h6⟩
  · have hx : xs = [] := List.eq_nil_of_length_eq_zero (by simpa using hv.len)
    subst hx
    obtain ⟨v', w', hr, k1, k2, k3, k4⟩ := run_append_own_at (P := P) w w.heap.size t ty e i z size bytes ht hi hz hsize hby hzs hsz (.slice none 0 0) 0 [] (World.ownsRow_nil _ _ _ _) a m c news hl hnews h1 h63 hbytes (Nat.le_refl _)
    exact ⟨v', w', hr, Vec.of_owns k1, .inr ⟨(Only.refl None' w).grown k2 (fun k hk => by cases hk), fun k hk => (k1.lt k hk).1⟩⟩
  · by_cases hroom : n + m ≤ cap
    · subst hsize
      have hb : ∀ j, j < news.length → n * i.size + j < cap * i.size := fun j hj => by
        rw [hl] at hj
        have : (n + m) * i.size ≤ cap * i.size := Nat.mul_le_mul_right _ hroom
        rw [Nat.add_mul] at this
        omega
      have hr := run_append_room_cells (P := P) w t ty e i ht hi g off n cap a m c news hl hnews h1 hroom (fun j hj => by rw [Nat.add_assoc]; exact (h6 _ (hb j hj)).1) (fun j hj => by rw [Nat.add_assoc]; exact (h6 _ (hb j hj)).2)
      obtain ⟨v', w', hr2, k1, k2, _⟩ := run_vec_append (P := P) w t ty e i z i.size bytes ht hi hz rfl hby hzs hsz _ n xs hv a m c news hl hnews h1 h63 hbytes
      rw [hr] at hr2
      injection hr2 with e1 e2
      subst e1 e2
      exact ⟨_, _, hr, k1, .inl ⟨⟨g, off, none⟩, cap, rfl, rfl, k2⟩⟩
    · obtain ⟨v', w', hr, k1, k2⟩ := run_append_arg_grows (P := P) w t ty e i z size bytes ht hi hz hsize hby hzs hsz ⟨g, off, none⟩ n cap xs hv.len (fun j u hu => by rw [add_mid' (⟨g, off, none⟩) j rfl]; exact h5 j u hu) a m c news hl hnews (by omega) h63 hbytes
      exact ⟨v', w', hr, Vec.of_owns k1, .inr ⟨(Only.refl None' w).grown k2 (fun k hk => by cases hk), fun k hk => (k1.lt k hk).1⟩⟩
end
theorem wpList_append_two {P : Program} {w : World} {ops : Array Oper} {rest : List Oper} {o : Oper} {a : Act} {Q : Exit → Act → World → Prop} (hgd : o.guard = none) (s x : Operand) (t : TypeId)
    (ho : o.op = .call { callee := .builtin .append, args := #[s, x], argTypes := #[t, t] })
    (e : TypeId) (i : TypeInfo) (z : Value) (size bytes : Nat) (ht : P.underlying t = some (.slice e)) (hi : P.info? e = some i) (hz : i.zero = some z)
    (hsize : i.size = size) (hby : i.bytes = bytes) (hzs : z.cells.size = size) (hsz : 0 < size)
    (v : Value) (n : Nat) (xs : List Value) (hs : a.eval s = v) (hv : Vec w size v n xs)
    (ad : Addr) (m c : Nat) (news : List Value) (hx : a.eval x = .slice (some ad) m c) (hl : news.length = m * size) (hnews : ∀ j u, news[j]? = some u → w.cell? (ad.add j) = some u) (h1 : ∀ u ∈ news, u.oneCell' = true)
    (h63 : n + m ≤ maxLen) (hbytes : (n + m) * bytes ≤ 140737488355328)
    (h : ∀ v' w', Vec w' size v' (n + m) (xs ++ news) → ((∃ ad c, v = .slice (some ad) n c ∧ v' = .slice (some ad) (n + m) c ∧ w.grownBy w' v.ownBlock) ∨ (Only None' w w' ∧ ∀ k, v'.ownBlock = some k → w.heap.size ≤ k)) → wpList P ops Q rest (a.put o.dst v') w') : wpList P ops Q (o :: rest) a w :=
  wpList_plain hgd fun K hK => by
    obtain ⟨v', w', hrun, h2, h3⟩ := run_append_two (P := P) w t o.type e i z size bytes ht hi hz hsize hby hzs hsz v n xs hv ad m c news hl hnews h1 h63 hbytes
    unfold Oper.wp execOp
    simp only [ho, resolve, invoke, builtin, Sem.run_bind, Sem.run_pure, Result.andThen_ok, List.map_toArray, List.map_cons, List.map_nil, hs, hx, hrun]
    exact hK _ _ (h v' w' h2 h3)

/-! ### the disk and the ring within a round -/
structure Cx (w0 w : World) (R D : Nat) (F : Nat → Prop) (count base : Nat) (d : Dk) (P : List Pc) (a n : Nat) : Prop where
  dsk : Dsk w0 w D F d
  few : d.Few n
  dl : d.lasts.length = 16
  new : w0.heap.size ≤ R
  apart : ¬ F R
  rlt : R < w.heap.size
  st : (d.dead = false ∧ RingAt w R D ⟨3, count, base, base + P.length, base + P.length⟩ ∧ Whole P ∧ Aw 3 count base d P a) ∨ (d.dead = true ∧ Gone 3 count base d.lasts P a)
section
variable {w0 w w' : World} {R D : Nat} {F : Nat → Prop} {count base a n : Nat} {d : Dk} {P : List Pc}
theorem Cx.only (h : Cx w0 w R D F count base d P a n) (o : Only None' w w') : Cx w0 w' R D F count base d P a n :=
  ⟨h.dsk.new o, h.few, h.dl, h.new, h.apart, Nat.lt_of_lt_of_le h.rlt o.size, h.st.imp (fun x => ⟨x.1, x.2.1.kept o fun e => e, x.2.2⟩) id⟩
theorem Cx.more {m : Nat} (h : Cx w0 w R D F count base d P a n) (hm : n ≤ m) : Cx w0 w R D F count base d P a m := ⟨h.dsk, h.few.mono hm, h.dl, h.new, h.apart, h.rlt, h.st⟩
theorem Cx.aside {S : Nat → Prop} (h : Cx w0 w R D F count base d P a n) (o : Only S w w') (hS : ∀ k, S k → w0.heap.size ≤ k ∧ k ≠ R ∧ ¬ F k) : Cx w0 w' R D F count base d P a n :=
  ⟨⟨h.dsk.at_.only o fun k hk e => (hS k e).2.2 hk, h.dsk.fresh, h.dsk.only.cons_new o fun k hk => (hS k hk).1⟩, h.few, h.dl, h.new, h.apart, Nat.lt_of_lt_of_le h.rlt o.size, h.st.imp (fun x => ⟨x.1, x.2.1.kept o fun e => (hS R e).2.1 rfl, x.2.2⟩) id⟩
theorem Cx.alive (h : Cx w0 w R D F count base d P a n) (hd : d.dead = false) : RingAt w R D ⟨3, count, base, base + P.length, base + P.length⟩ ∧ Whole P ∧ Aw 3 count base d P a := by
  rcases h.st with ⟨_, x⟩ | ⟨e, _⟩
  · exact x
  · rw [hd] at e; cases e
theorem rg_ok {len : Nat} (h1 : 1 ≤ count) (h9 : count ≤ 9) (hb : base ≤ 1000) (hl : len ≤ count) : (Rg.mk 3 count base (base + len) (base + len)).Ok :=
  ⟨h1, by show 3 + count ≤ _; omega, by show base ≤ base + len; omega, Nat.le_refl _, by show base + len ≤ base + count; omega, by show base + len ≤ _; omega⟩
theorem Cx.append (h : Cx w0 w R D F count base d P a n) (hd : d.dead = false) (h9 : count ≤ 9) (hb : base ≤ 1000) (hn : n ≤ 800000) {g off c m : Nat} {rec : Rec} (hm : rec.length = m) (hr : Rd w 1 (.slice (some ⟨g, off, none⟩) m c) rec.length (bv rec)) (hc : m ≤ c) (hcm : c ≤ maxLen) (hgF : ¬ F g) (hgl : g < w.heap.size) (hgR : g ≠ R) (hbm : m ≤ 140737488355328) :
    Calls Try.prog 40 #[.pointer (some ⟨R, 0, none⟩), .slice (some ⟨g, off, none⟩) m c] w fun e w' => ∃ code F', e = .returned (.int .i64 code) ∧ Kept (fun k => F k ∨ k = R) (fun k => F' k ∨ k = R) w w' ∧
      ((code ≠ 0 ∧ code ≠ 20 ∧ Cx w0 w' R D F' count base d P a n) ∨ ((code = 0 ∨ code = 20) ∧ ∃ d', Cx w0 w' R D F' count base d' (P ++ cutR (base + P.length) rec) a (n + 9) ∧ (code = 0 ↔ d'.dead = false) ∧ grp (P ++ cutR (base + P.length) rec) [] = grp P [] ++ [rec])) := by
  subst hm
  obtain ⟨hring, hwh, haw⟩ := h.alive hd
  have h1 := haw.one
  have hlen := haw.fit
  have hok := rg_ok (len := P.length) h1 h9 hb hlen
  cases hf : refuse ⟨3, count, base, base + P.length, base + P.length⟩ (cutN rec.length) with
  | some cd =>
    refine (append_no hring hok h.dsk.at_ hd _ _ _ hbm hf).mono ?_
    rintro e w' ⟨rfl, q, rfl⟩
    have o : Only None' w (w.drewN q) := (Only.refl _ _).drewN q
    have hcd : cd ≠ 0 ∧ cd ≠ 20 := by
      unfold refuse at hf
      split at hf
      · injection hf with hf; subst hf; decide
      split at hf
      · injection hf with hf; subst hf; decide
      split at hf
      · injection hf with hf; subst hf; decide
      split at hf
      · injection hf with hf; subst hf; decide
      · cases hf
    exact ⟨cd, F, rfl, Kept.new o, Or.inl ⟨hcd.1, hcd.2, h.only o⟩⟩
  | none =>
    obtain ⟨q1, q2, q3, q4⟩ := refuse_room hok hf
    have q1' : cutN rec.length ≤ count := q1
    have q3' : P.length + cutN rec.length ≤ count := by
      have : cutN rec.length ≤ count - (base + P.length - base) := q3
      omega
    obtain ⟨d', ok', hp1, hp2⟩ := Aw.puts (pl := (Rg.mk 3 count base (base + P.length) (base + P.length)).place) (fun n => rfl) (cutR (base + P.length) rec) d P haw (fun j hj => by
      rw [cutR_at]
      have hj' : j < cutN rec.length := by rwa [cutR_length] at hj
      exact ⟨by show base + P.length + 1 + j = _; omega, cutAt_ok hj' q4⟩) (by rw [cutR_length]; exact q3')
    have hfw := puts_few (Rg.mk 3 count base (base + P.length) (base + P.length)).place (cutR (base + P.length) rec) d n h.few
    rw [hp1, cutR_length] at hfw
    obtain ⟨hw1, hw2⟩ := whole_cut hwh (base + P.length) rec
    refine (append_go hring hok h.dsk.at_ hd (by rw [h.dl]; show 3 + count ≤ 16; omega) h.few (by omega) h.apart hr hc hcm hgF hgl hgR hbm hf).mono ?_
    rintro e w' ⟨rfl, F', hR', hD', hnR, hk⟩
    have happ : appR ⟨3, count, base, base + P.length, base + P.length⟩ d rec = if ok' then (0, ⟨3, count, base, base + P.length + cutN rec.length, base + P.length + cutN rec.length⟩, d') else (20, ⟨3, count, base, base + P.length, base + P.length⟩, d') := by
      unfold appR
      unfold refuse at hf
      split at hf
      · cases hf
      rename_i g1
      rw [if_neg g1]
      split at hf
      · cases hf
      rename_i g2
      rw [if_neg g2]
      split at hf
      · cases hf
      rename_i g3
      rw [if_neg g3]
      split at hf
      · cases hf
      rename_i g4
      rw [if_neg g4]
      show (match Dk.puts _ (cutR (base + P.length) rec) d with
        | (d', true) => _
        | (d', false) => _) = _
      rw [hp1]
      cases ok' <;> rfl
    have hlR : R < w'.heap.size := Nat.lt_of_lt_of_le h.rlt hk.only.size
    have hfresh : ∀ k, F' k → w0.heap.size ≤ k := fun k hk' => by
      rcases hk.fresh k (Or.inl hk') with (h1 | h1) | h1
      · exact h.dsk.fresh k h1
      · rw [h1]; exact h.new
      · exact Nat.le_trans h.dsk.only.size h1
    have honly : Only None' w0 w' := h.dsk.only.cons_new hk.only fun i hi => hi.elim (h.dsk.fresh i) fun e => e ▸ h.new
    have hfw' : d'.Few (n + 9) := hfw.mono (by omega)
    have hdl : d'.lasts.length = 16 := by
      have := hD'
      have hpl := puts_len (Rg.mk 3 count base (base + P.length) (base + P.length)).place (cutR (base + P.length) rec) d
      rw [hp1] at hpl
      rw [hpl]
      exact h.dl
    rw [happ] at hR' hD' ⊢
    cases ok' with
    | true =>
      obtain ⟨hp3, hp4⟩ := hp2
      refine ⟨0, F', rfl, hk, Or.inr ⟨Or.inl rfl, d', ⟨⟨hD', hfresh, honly⟩, hfw', hdl, h.new, hnR, hlR, Or.inl ⟨by rw [hp4]; exact hd, ?_, hw1, hp3⟩⟩, by rw [hp4, hd]; simp, hw2⟩⟩
      have e : base + (P ++ cutR (base + P.length) rec).length = base + P.length + cutN rec.length := by rw [List.length_append, cutR_length]; omega
      rw [e]
      exact hR'
    | false =>
      obtain ⟨hp3, hp4⟩ := hp2
      exact ⟨20, F', rfl, hk, Or.inr ⟨Or.inr rfl, d', ⟨⟨hD', hfresh, honly⟩, hfw', hdl, h.new, hnR, hlR, Or.inr ⟨hp4, hp3⟩⟩, by rw [hp4]; simp, hw2⟩⟩
theorem Cx.sync (h : Cx w0 w R D F count base d P a n) (hd : d.dead = false) (hn : n ≤ 900000) : Calls Try.prog 44 #[.pointer (some ⟨R, 0, none⟩)] w fun e w' => ∃ code F' d', e = .returned (.int .i64 code) ∧ Kept F F' w w' ∧
      ((code = 0 ∧ Cx w0 w' R D F' count base d' P P.length (n + 9) ∧ d'.dead = false) ∨ (code = 20 ∧ Cx w0 w' R D F' count base d' P a (n + 9) ∧ d'.dead = true)) := by
  obtain ⟨hring, hwh, haw⟩ := h.alive hd
  refine (sync_any hring h.dsk.at_ hd h.few (by omega)).mono ?_
  rintro e w' ⟨rfl, F', hD, hk⟩
  have hnR : ¬ F' R := fun e => (hk.fresh R e).elim h.apart fun e => by have := h.rlt; omega
  have hlR : R < w'.heap.size := Nat.lt_of_lt_of_le h.rlt hk.only.size
  have hdk := h.dsk.step hD hk
  have hfw := (h.few.flush).mono (show n + 1 ≤ n + 9 by omega)
  have hR' := hring.kept hk.only h.apart
  cases hu : d.due with
  | true =>
    have e1 : d.err = 20 := by unfold Dk.err; rw [hu]; rfl
    have e2 : d.flush = d.crashed d.keep := by unfold Dk.flush; rw [hu]; rfl
    rw [e1]
    rw [e2] at hdk hfw
    refine ⟨20, F', _, rfl, hk, Or.inr ⟨rfl, ⟨hdk, hfw, ?_, h.new, hnR, hlR, Or.inr ⟨rfl, haw.crash _⟩⟩, rfl⟩⟩
    show (settle _ 0 d.waits d.lasts).length = 16
    rw [settle_length]; exact h.dl
  | false =>
    have e1 : d.err = 0 := by unfold Dk.err; rw [hu]; rfl
    have e2 : d.flush = d.tick.flushed := by unfold Dk.flush; rw [hu]; rfl
    rw [e1]
    rw [e2] at hdk hfw
    refine ⟨0, F', _, rfl, hk, Or.inl ⟨rfl, ⟨hdk, hfw, ?_, h.new, hnR, hlR, Or.inl ⟨hd, hR', hwh, haw.flushed⟩⟩, hd⟩⟩
    show (settle _ 0 d.waits d.lasts).length = 16
    rw [settle_length]; exact h.dl
/-- the power goes -/
theorem Cx.crash (h : Cx w0 w R D F count base d P a n) (hd : d.dead = false) (hn : n ≤ 900000) {v : Value} {keep : List Bool} (hr : Rd w 1 v keep.length (bo keep)) (hap : bo keep ≠ [] → ∀ g, v.ownBlock = some g → ¬ F g) :
    Calls Try.prog 18 #[.pointer (some ⟨D, 0, none⟩), v] w fun e w' => e = .returned (.int .i64 0) ∧ ∃ F' d', Cx w0 w' R D F' count base d' P a (n + 9) ∧ d'.dead = true ∧ Kept F F' w w' := by
  obtain ⟨hring, hwh, haw⟩ := h.alive hd
  refine (h.dsk.crash h.few (by omega) hd hr hap rfl).mono ?_
  rintro e w' ⟨rfl, F', hdk, hk⟩
  refine ⟨rfl, F', _, ⟨hdk, (h.few.crashed keep).mono (by omega), ?_, h.new, fun e => (hk.fresh R e).elim h.apart fun e => by have := h.rlt; omega, Nat.lt_of_lt_of_le h.rlt hk.only.size, Or.inr ⟨rfl, haw.crash _⟩⟩, rfl, hk⟩
  show (settle _ 0 d.waits d.lasts).length = 16
  rw [settle_length]; exact h.dl
end
end Go.Proofs.Yteoeaojebklfjaa
namespace Go.Proofs.Yteoeaojebklfjaa
open Go.RowKit Go.Maps
set_option linter.unusedVariables false

theorem grp_len : ∀ (ps : List Pc) (now : Rec), (grp ps now).length ≤ ps.length
  | [], _ => Nat.le_refl _
  | p :: ps, now => by
    simp only [grp]
    split
    · rw [List.length_cons, List.length_cons]
      have := grp_len ps []
      omega
    · have := grp_len ps (now ++ p.data)
      rw [List.length_cons]
      omega
theorem recs_far' {w0 w w' : World} {R : Nat} {F F' : Nat → Prop} {v : Value} {rs : List Rec} (h : Recs w (fun k => w0.heap.size ≤ k ∧ k ≠ R ∧ ¬ F k) v rs) (hk : Kept (fun k => F k ∨ k = R) (fun k => F' k ∨ k = R) w w') : Recs w' (fun k => w0.heap.size ≤ k ∧ k ≠ R ∧ ¬ F' k) v rs := by
  have key : ∀ k, k < w.heap.size → k ≠ R → ¬ F k → ¬ F' k := fun k hk' hR hF e => by
    rcases hk.fresh k (Or.inl e) with (h | h) | h
    · exact hF h
    · exact hR h
    · omega
  have h1 : Recs w (fun k => (w0.heap.size ≤ k ∧ k ≠ R ∧ ¬ F' k) ∧ ¬ F k) v rs := h.mono fun k hk' p => ⟨⟨p.1, p.2.1, key k hk' p.2.1 p.2.2⟩, p.2.2⟩
  exact (h1.only hk.only fun k p e => e.elim p.2 p.1.2.1).mono fun k _ p => p.1
/-- what is sure: a list of its own, or the beginning of the other one's row -/
structure Ls (w0 w : World) (R : Nat) (F : Nat → Prop) (va vs : Value) (all sure : List Rec) : Prop where
  al : Recs w (fun k => w0.heap.size ≤ k ∧ k ≠ R ∧ ¬ F k) va all
  su : Tells w (fun k => w0.heap.size ≤ k ∧ k ≠ R ∧ ¬ F k ∧ va.ownBlock ≠ some k) vs sure ∨ ∃ ad c, va = .slice ad all.length c ∧ vs = .slice ad sure.length c ∧ sure.length ≤ all.length ∧ sure = all.take sure.length
section
variable {w0 w w' : World} {R : Nat} {F F' : Nat → Prop} {va vs : Value} {all sure : List Rec}
theorem Ls.tells (h : Ls w0 w R F va vs all sure) : Tells w (fun k => w0.heap.size ≤ k ∧ k ≠ R ∧ ¬ F k) vs sure := by
  rcases h.su with h1 | ⟨ad, c, rfl, rfl, h1, h2⟩
  · exact h1.mono fun k _ p => ⟨p.1, p.2.1, p.2.2.1⟩
  · have := h.al.tells.take h1
    rw [← h2] at this
    exact this
theorem Ls.only (h : Ls w0 w R F va vs all sure) (o : Only None' w w') : Ls w0 w' R F va vs all sure :=
  ⟨h.al.only o fun _ _ e => e, h.su.imp (fun x => x.only o fun _ _ e => e) id⟩
/-- what turns the ring and the disk -/
theorem Ls.far (h : Ls w0 w R F va vs all sure) (hk : Kept (fun k => F k ∨ k = R) (fun k => F' k ∨ k = R) w w') : Ls w0 w' R F' va vs all sure := by
  have key : ∀ k, k < w.heap.size → k ≠ R → ¬ F k → ¬ F' k := fun k hk' hR hF e => by
    rcases hk.fresh k (Or.inl e) with (h | h) | h
    · exact hF h
    · exact hR h
    · omega
  refine ⟨recs_far' h.al hk, h.su.imp (fun x => ?_) id⟩
  have h1 : Tells w (fun k => (w0.heap.size ≤ k ∧ k ≠ R ∧ ¬ F' k ∧ va.ownBlock ≠ some k) ∧ ¬ F k) vs sure := x.mono fun k hk' p => ⟨⟨p.1, p.2.1, key k hk' p.2.1 p.2.2.1, p.2.2.2⟩, p.2.2.1⟩
  exact (h1.only hk.only fun k p e => e.elim p.2 p.1.2.1).mono fun k _ p => p.1
/-- a record more: in place, or in a new row -/
theorem Ls.push (h : Ls w0 w R F va vs all sure) {y : World} {v' x : Value} {xs : List Value} {o : Obj} {rec : Rec} (hxs : xs.length = all.length) (hvx : Vec w 1 va all.length xs) (hrow : ∀ (i : Nat) (hi : i < all.length), ∃ x, xs[i]? = some x ∧ Vec w 1 x all[i].length (bv all[i]) ∧ ∀ k, x.ownBlock = some k → (w0.heap.size ≤ k ∧ k ≠ R ∧ ¬ F k) ∧ va.ownBlock ≠ some k)
    (hx : Vec w 1 x rec.length (bv rec)) (hxp : ∀ k, x.ownBlock = some k → (w0.heap.size ≤ k ∧ k ≠ R ∧ ¬ F k) ∧ va.ownBlock ≠ some k) (hw0 : w0.heap.size ≤ w.heap.size) (hR : R < w.heap.size) (hF : ∀ k, F k → k < w.heap.size)
    (hv : Vec y 1 v' (all.length + 1) (xs ++ [x])) (hc : (∃ ad c, va = .slice (some ad) all.length c ∧ v' = .slice (some ad) (all.length + 1) c ∧ (w.alloc o).grownBy y va.ownBlock) ∨ (Only None' (w.alloc o) y ∧ ∀ k, v'.ownBlock = some k → (w.alloc o).heap.size ≤ k)) :
    Ls w0 y R F v' vs (all ++ [rec]) sure ∧ Only (fun k => va.ownBlock = some k) w y ∧ ∀ k, v'.ownBlock = some k → va.ownBlock = some k ∨ w.heap.size ≤ k := by
  have oa : Only None' w (w.alloc o) := (Only.refl _ _).alloc _
  have hsz : (w.alloc o).heap.size = w.heap.size + 1 := by simp
  have hg : (w.alloc o).grownBy y va.ownBlock := by
    rcases hc with ⟨_, _, _, _, h1⟩ | ⟨h1, _⟩
    · exact h1
    · exact ⟨h1.os, h1.tape, h1.output, h1.size, fun k hk _ => h1.block k hk fun e => e⟩
  have hf : ∀ k, v'.ownBlock = some k → va.ownBlock = some k ∨ (w.alloc o).heap.size ≤ k := by
    rcases hc with ⟨ad, c, e1, e2, _⟩ | ⟨_, h2⟩
    · intro k hk
      rw [e2] at hk
      rw [e1]
      exact Or.inl hk
    · exact fun k hk => Or.inr (h2 k hk)
  have oy : Only (fun k => va.ownBlock = some k) w y := (oa.mono fun _ _ e => e.elim).trans ((Only.refl (fun k => va.ownBlock = some k) (w.alloc o)).grown hg fun k hk => hk)
  refine ⟨⟨Recs.push (w := w.alloc o) (x := x) (xs := xs) h.al.own (fun i hi => ?_) hv hxs hg hf (hx.alloc _) hxp fun k hk => ⟨by omega, by omega, fun e => by have := hF k e; omega⟩, ?_⟩, oy, fun k hk => (hf k hk).imp id fun h => by omega⟩
  · obtain ⟨x, a, b, c⟩ := hrow i hi
    exact ⟨x, a, b.alloc _, c⟩
  · rcases h.su with h1 | ⟨ad, c, e1, e2, h3, h4⟩
    · refine Or.inl ?_
      have h2 : Tells w (fun k => (w0.heap.size ≤ k ∧ k ≠ R ∧ ¬ F k ∧ v'.ownBlock ≠ some k) ∧ va.ownBlock ≠ some k) vs sure := h1.mono fun k hk p => ⟨⟨p.1, p.2.1, p.2.2.1, fun e => by
        rcases hf k e with h5 | h5
        · exact p.2.2.2 h5
        · omega⟩, p.2.2.2⟩
      exact (h2.only oy fun k p e => p.2 e).mono fun k _ p => p.1
    · rcases hc with ⟨ad', c', e3, e5, _⟩ | ⟨h5, h6⟩
      · rw [e1] at e3
        injection e3 with e3 _ e6
        subst e3 e6
        refine Or.inr ⟨_, c, by rw [e5, List.length_append]; rfl, e2, by rw [List.length_append]; omega, ?_⟩
        rw [List.take_append_of_le_length h3]
        exact h4
      · refine Or.inl ?_
        have h7 := h.tells
        have h8 : Tells w (fun k => (w0.heap.size ≤ k ∧ k ≠ R ∧ ¬ F k ∧ v'.ownBlock ≠ some k)) vs sure := h7.mono fun k hk p => ⟨p.1, p.2.1, p.2.2, fun e => by have := h6 k e; omega⟩
        exact h8.only (oa.trans h5) fun _ _ e => e
/-- all of it is sure -/
theorem Ls.sync (h : Ls w0 w R F va vs all sure) {ad : Option Addr} {c : Nat} (hv : va = .slice ad all.length c) : Ls w0 w R F va (.slice ad all.length c) all all :=
  ⟨h.al, Or.inr ⟨ad, c, hv, rfl, Nat.le_refl _, by rw [List.take_length]⟩⟩
end

/-- at a round's head -/
structure Hd (w0 w : World) (D : Nat) (F : Nat → Prop) (count base : Nat) (d : Dk) (vs : Value) (sure : List Rec) : Prop where
  dsk : Dsk w0 w D F d
  dead : d.dead = false
  set : d.set = false
  wt : d.waits = []
  few : d.Few 0
  dl : d.lasts.length = 16
  gone : ∃ P a, Gone 3 count base d.lasts P a
  tells : Tells w (fun k => w0.heap.size ≤ k ∧ ¬ F k) vs sure
  told : (runG count (gAt 3 d) count base [] [] base).1 = sure
theorem gAt_gL {d : Dk} (h : d.waits = []) (first : Nat) : gAt first d = gL first d.lasts := by
  funext i
  unfold gAt gL Dk.read
  rw [h]
  rfl
section
variable {w0 w w' : World} {D : Nat} {F : Nat → Prop} {count base : Nat} {d : Dk} {vs : Value} {sure : List Rec}
theorem Hd.only (h : Hd w0 w D F count base d vs sure) (o : Only None' w w') : Hd w0 w' D F count base d vs sure :=
  ⟨h.dsk.new o, h.dead, h.set, h.wt, h.few, h.dl, h.gone, h.tells.only o fun _ _ e => e, h.told⟩
theorem Hd.calm (h : Hd w0 w D F count base d vs sure) : d.Calm 16 0 := ⟨h.dead, h.set, h.dl, h.few⟩
/-- opened: torn, or said so: from nothing on -/
theorem Hd.begin_empty {R : Nat} (h : Hd w0 w D F count base d vs sure) (hdk : Dsk w0 w' D F d) (hc : 1 ≤ count) (hR : w0.heap.size ≤ R) (hRF : ¬ F R) (hr : RingAt w' R D (Rg.opened 3 count base (gAt 3 d)).emptied) :
    Cx w0 w' R D F count (topG count (gAt 3 d) base count) d [] 0 0 ∧ topG count (gAt 3 d) base count ≤ base + count := by
  obtain ⟨P, a, hg⟩ := h.gone
  obtain ⟨h1, h2⟩ := hg.fresh h.wt
  rw [gAt_gL h.wt 3] at hr ⊢
  exact ⟨⟨hdk, h.few, h.dl, hR, hRF, hr.lt, Or.inl ⟨h.dead, hr, whole_nil, h1⟩⟩, h2⟩
/-- ... as it is -/
theorem Hd.begin_whole {R : Nat} (h : Hd w0 w D F count base d vs sure) (hc : 1 ≤ count) (hR : w0.heap.size ≤ R) (hRF : ¬ F R) (hr : RingAt w R D (Rg.opened 3 count base (gAt 3 d))) (ht : (Rg.opened 3 count base (gAt 3 d)).top ≤ (Rg.opened 3 count base (gAt 3 d)).last) :
    ∃ P, Cx w0 w R D F count base d P P.length 0 ∧ grp P [] = sure := by
  obtain ⟨P, a, hg⟩ := h.gone
  have e1 : (Rg.opened 3 count base (gAt 3 d)).last = lastN (chainG count (gL 3 d.lasts) count base) base := by
    show (runG count (gAt 3 d) count base [] [] base).2 = _
    rw [runG_chain, gAt_gL h.wt 3]
  have e2 : (Rg.opened 3 count base (gAt 3 d)).top = topG count (gL 3 d.lasts) base count := by
    show topG count (gAt 3 d) base count = _
    rw [gAt_gL h.wt 3]
  obtain ⟨h1, h2, h3⟩ := hg.next h.wt (by rw [← e1, ← e2]; exact ht)
  have h4 : (Rg.opened 3 count base (gAt 3 d)).last ≤ (Rg.opened 3 count base (gAt 3 d)).top := runG_top (fun n p hp => pieceG_top hc hp) _ _ _ _ _ (topG_le _)
  refine ⟨chainG count (gL 3 d.lasts) count base, ⟨h.dsk, h.few, h.dl, hR, hRF, hr.lt, Or.inl ⟨h.dead, ?_, h1, h2⟩⟩, ?_⟩
  · have e3 : Rg.opened 3 count base (gAt 3 d) = ⟨3, count, base, base + (chainG count (gL 3 d.lasts) count base).length, base + (chainG count (gL 3 d.lasts) count base).length⟩ := by
      have f1 : (Rg.opened 3 count base (gAt 3 d)).last = base + (chainG count (gL 3 d.lasts) count base).length := e1.trans h3
      have f2 : (Rg.opened 3 count base (gAt 3 d)).top = base + (chainG count (gL 3 d.lasts) count base).length := by omega
      have f3 : Rg.opened 3 count base (gAt 3 d) = ⟨3, count, base, (Rg.opened 3 count base (gAt 3 d)).last, (Rg.opened 3 count base (gAt 3 d)).top⟩ := rfl
      rw [f3, f1, f2]
    rw [e3] at hr
    exact hr
  · rw [← h.told, gAt_gL h.wt 3, runG_chain]
    rfl
end
theorem hd_new {w0 w : World} {D : Nat} {F : Nat → Prop} {count : Nat} (h : Dsk w0 w D F (Dk.new 16)) (h1 : 1 ≤ count) (h9 : count ≤ 9) : Hd w0 w D F count 0 (Dk.new 16) (.slice none 0 0) [] := by
  have hz : ∀ i, i < count → seeG count (gAt 3 (Dk.new 16)) i = none := fun i hi => see_zero (new_read (by omega))
  have hh : Holds count (gAt 3 (Dk.new 16)) 0 [] := Holds.none_at hz
  have e : gAt 3 (Dk.new 16) = gL 3 (Dk.new 16).lasts := gAt_gL rfl 3
  refine ⟨h, rfl, rfl, rfl, Dk.Few.new, by simp [Dk.new], ⟨[], 0, h1, ⟨0, Nat.le_refl _, Nat.le_refl _, ?_⟩, fun i p hi hp => ?_, by simp [Dk.new]; omega⟩, Tells.nil _ _, ?_⟩
  · rw [← e, hh.chain h1 (Nat.zero_le _)]; rfl
  · rw [← e, hz i hi] at hp; cases hp
  · rw [told_none hh h1]
theorem Cx.fused {w0 w : World} {R D : Nat} {F : Nat → Prop} {count base a n : Nat} {d : Dk} {P : List Pc} (h : Cx w0 w R D F count base d P a n) (hd : d.dead = false) {f : Nat} {i : Int} (hi : (f : Int) = i) (hf : f ≤ 1000) {v : Value} {keep : List Bool} (hr : Rd w 1 v keep.length (bo keep)) (hn : keep.length ≤ 140737488351232) :
    Calls Try.prog 14 #[.pointer (some ⟨D, 0, none⟩), .int .i64 i, v] w fun e w' => e = .returned (.int .i64 0) ∧ ∃ F', Cx w0 w' R D F' count base (d.fused f keep) P a n ∧ Kept F F' w w' := by
  obtain ⟨hring, hwh, haw⟩ := h.alive hd
  refine (h.dsk.setFuse hd hi hr hn rfl).mono ?_
  rintro e w' ⟨rfl, F', hdk, hk⟩
  exact ⟨rfl, F', ⟨hdk, h.few.fused (by omega) hn, h.dl, h.new, fun e => (hk.fresh R e).elim h.apart fun e => by have := h.rlt; omega, Nat.lt_of_lt_of_le h.rlt hk.only.size, Or.inl ⟨hd, hring.kept hk.only h.apart, hwh, ⟨haw.one, haw.num, haw.fit, haw.upto, haw.last, haw.waits, haw.len⟩⟩⟩, hk⟩
/-- the list of all, and what is sure, when a round begins -/
theorem Ls.start {w0 w y : World} {R : Nat} {F : Nat → Prop} {vl v' : Value} {all : List Rec} {xs : List Value} {o : Obj} {gb : Nat} (h : Recs w (fun k => w0.heap.size ≤ k ∧ k ≠ R ∧ ¬ F k) vl all) (hxs : xs.length = all.length) (hrow : ∀ (i : Nat) (hi : i < all.length), ∃ x, xs[i]? = some x ∧ Vec w 1 x all[i].length (bv all[i]) ∧ ∀ k, x.ownBlock = some k → (w0.heap.size ≤ k ∧ k ≠ R ∧ ¬ F k) ∧ vl.ownBlock ≠ some k)
    (hb : gb = w.heap.size) (hv : Vec y 1 v' (0 + all.length) ([] ++ xs)) (hg : (w.alloc o).grownBy y (some gb)) (hf : ∀ k, v'.ownBlock = some k → some gb = some k ∨ (w.alloc o).heap.size ≤ k) (hw0 : w0.heap.size ≤ w.heap.size) (hR : R < w.heap.size) (hF : ∀ k, F k → k < w.heap.size) :
    Ls w0 y R F v' vl all all ∧ Only None' w y ∧ ∀ k, v'.ownBlock = some k → w.heap.size ≤ k := by
  rw [Nat.zero_add, List.nil_append] at hv
  have hsz : (w.alloc o).heap.size = w.heap.size + 1 := by simp
  have oy : Only None' w y := ((Only.refl None' w).alloc o).trans2 ((Only.refl (fun k => k = gb) (w.alloc o)).grown hg fun k hk => by injection hk with hk; exact hk.symm) fun k hk e => by omega
  have hnew : ∀ k, v'.ownBlock = some k → w.heap.size ≤ k := fun k hk => by
    rcases hf k hk with h1 | h1
    · injection h1 with h1; omega
    · omega
  refine ⟨⟨⟨fun k hk => ?_, xs, hv, fun i hi => ?_⟩, Or.inl ?_⟩, oy, hnew⟩
  · have := hnew k hk
    exact ⟨by omega, by omega, fun e => by have := hF k e; omega⟩
  · obtain ⟨x, a, b, c⟩ := hrow i hi
    exact ⟨x, a, b.only oy fun _ _ e => e, fun k hk => ⟨(c k hk).1, fun e => by have := hnew k e; have := b.lt hk; omega⟩⟩
  · have h1 : Tells w (fun k => w0.heap.size ≤ k ∧ k ≠ R ∧ ¬ F k ∧ v'.ownBlock ≠ some k) vl all := h.tells.mono fun k hk p => ⟨p.1, p.2.1, p.2.2, fun e => by have := hnew k e; omega⟩
    exact h1.only oy fun _ _ e => e
theorem rows_one {w : World} {xs : List Value} {all : List Rec} {Q : Value → Prop} (hxs : xs.length = all.length) (hrow : ∀ (i : Nat) (hi : i < all.length), ∃ x, xs[i]? = some x ∧ Vec w 1 x all[i].length (bv all[i]) ∧ Q x) : ∀ u ∈ xs, u.oneCell' = true := fun u hu => by
  obtain ⟨i, hi, rfl⟩ := List.getElem_of_mem hu
  obtain ⟨x, a, b, _⟩ := hrow i (by omega)
  obtain ⟨ad, c, rfl, _⟩ := b.shape
  rw [List.getElem?_eq_getElem hi] at a
  injection a with a
  rw [a]; rfl
/-- a disk that is opened again -/
theorem told_gone {count base a : Nat} {d : Dk} {P : List Pc} (h : Gone 3 count base d.lasts P a) : ∃ t, a ≤ t ∧ (runG count (gAt 3 d.reopened) count base [] [] base).1 = grp (P.take t) [] := by
  obtain ⟨t, h1, _, h3⟩ := h.chain
  refine ⟨t, h1, ?_⟩
  rw [gAt_gL (d := d.reopened) rfl 3, runG_chain]
  show [] ++ grp (chainG count (gL 3 d.lasts) count base) [] = _
  rw [h3]
  rfl
end Go.Proofs.Yteoeaojebklfjaa
namespace Go.Proofs.Yteoeaojebklfjaa
open Go.RowKit Go.Maps
set_option linter.unusedVariables false

theorem one9 (x : Int) : ∃ N : Nat, wrap64 (1 + wrap64 ((IntKind.u64.wrap x).tmod 9)) = (N : Int) ∧ 1 ≤ N ∧ N ≤ 9 := by
  obtain ⟨m, h1, h2⟩ := mod_is x 9 (by decide) (by decide)
  refine ⟨m + 1, ?_, by omega, by omega⟩
  rw [h1, IntWalk.wrap64_in _ (by omega)]
  omega
theorem mod40 (x : Int) : ∃ N : Nat, wrap64 ((IntKind.u64.wrap x).tmod 40) = (N : Int) ∧ N < 40 := by
  obtain ⟨m, h1, h2⟩ := mod_is x 40 (by decide) (by decide)
  exact ⟨m, h1, by omega⟩
theorem mod1300 (x : Int) : ∃ N : Nat, wrap64 ((IntKind.u64.wrap x).tmod 1300) = (N : Int) ∧ N < 1300 := by
  have h0 := u64_nonneg x
  have e : (IntKind.u64.wrap x).tmod 1300 = (IntKind.u64.wrap x) % 1300 := Int.tmod_eq_emod_of_nonneg h0
  have h1 := Int.emod_nonneg (IntKind.u64.wrap x) (show (1300 : Int) ≠ 0 by decide)
  have h2 := Int.emod_lt_of_pos (IntKind.u64.wrap x) (show (0 : Int) < 1300 by decide)
  refine ⟨((IntKind.u64.wrap x) % 1300).toNat, ?_, by omega⟩
  rw [e, IntWalk.wrap64_in _ (by omega)]
  omega
theorem u8_mod2 (z : Int) : ∃ b : UInt8, z % 256 = (b.toNat : Int) := by
  have h2 := Int.emod_nonneg z (show (256 : Int) ≠ 0 by decide)
  have h3 := Int.emod_lt_of_pos z (show (0 : Int) < 256 by decide)
  refine ⟨UInt8.ofNat (z % 256).toNat, ?_⟩
  rw [UInt8.toNat_ofNat_of_lt' (by show _ < 256; omega)]
  omega
set_option maxRecDepth 20000 in
theorem crashes_long (x : Int) (a : Option Addr) (n c : Nat) (w : World) (h : 6 < n) : Calls Try.prog 11 #[.int .i64 x, .slice a n c] w fun e w' => e = .returned (.bool true) ∧ Below w.heap.size w w' := by
  have h1 : (6 : Int) < (n : Int) := by omega
  have d1 : decide ((6 : Int) < (n : Int)) = true := by rw [decide_eq_true_eq]; exact h1
  clear h
  go_enter Try.func11, Try.ntmps11
  go_wp2_with fail
  refine (awake_any w).mono ?_
  rintro e w1 ⟨rfl, o⟩
  have O := Lib.hid o
  clear o
  go_wp2_with fail
  go_ret
  exact ⟨rfl, O.out.below (Nat.le_refl _) fun _ e => e.elim⟩

/-- what stands within a round -/
structure Rn (w0 w : World) (R D : Nat) (F : Nat → Prop) (count base : Nat) (d : Dk) (P : List Pc) (a n : Nat) (va vs : Value) (all sure : List Rec) (T : Nat) (cs : List Value) : Prop where
  cx : Cx w0 w R D F count base d P a n
  ls : Ls w0 w R F va vs all sure
  eall : all = grp P []
  esure : sure = grp (P.take a) []
  box : CellsR w T cs
  tr : T ≠ R
  tf : ¬ F T
  ta : ∀ k, va.ownBlock = some k → T < k
  tn : w0.heap.size ≤ T
section
variable {w0 w w' : World} {R D T : Nat} {F F' : Nat → Prop} {count base a n : Nat} {d : Dk} {P : List Pc} {va vs : Value} {all sure : List Rec} {cs : List Value}
theorem Rn.only (h : Rn w0 w R D F count base d P a n va vs all sure T cs) (o : Only None' w w') : Rn w0 w' R D F count base d P a n va vs all sure T cs :=
  ⟨h.cx.only o, h.ls.only o, h.eall, h.esure, h.box.kept o fun e => e, h.tr, h.tf, h.ta, h.tn⟩
theorem Rn.box_far (h : Rn w0 w R D F count base d P a n va vs all sure T cs) (hk : Kept (fun k => F k ∨ k = R) (fun k => F' k ∨ k = R) w w') : CellsR w' T cs ∧ ¬ F' T := by
  refine ⟨h.box.kept hk.only fun e => e.elim h.tf h.tr, fun e => ?_⟩
  rcases hk.fresh T (Or.inl e) with (h1 | h1) | h1
  · exact h.tf h1
  · exact h.tr h1
  · have := h.box.lt; omega
end
theorem Hd.open_ {w0 w : World} {D : Nat} {F : Nat → Prop} {count base : Nat} {d : Dk} {vs : Value} {sure : List Rec} (h : Hd w0 w D F count base d vs sure) (hc : 1 ≤ count) (h9 : count ≤ 9) (hb : base ≤ 1000) : Calls Try.prog 38 #[.pointer (some ⟨D, 0, none⟩), .int .i64 3, .int .i64 (count : Int), .int .i64 (base : Int)] w fun e w' => ∃ R a c, e = .returned (.tuple #[.pointer (some ⟨R, 0, none⟩), .slice a sure.length c, .int .i64 0]) ∧ w.heap.size ≤ R ∧ Hd w0 w' D F count base d vs sure ∧ RingAt w' R D (Rg.opened 3 count base (gAt 3 d)) ∧ Recs w' (fun k => w.heap.size ≤ k ∧ k ≠ R) (.slice a sure.length c) sure ∧ Only None' w w' := by
  refine (ropen_any (first := 3) (count := count) (base := base) h.dsk.at_ h.dead (Nat.le_trans h.few.waits (by omega)) hc (by rw [h.dl]; omega) (by omega)).mono ?_
  rintro e w' ⟨R, v, rfl, hR, hr, hrec, ho⟩
  rw [h.told] at hrec
  obtain ⟨a, c, rfl⟩ := hrec.shape
  exact ⟨R, a, c, rfl, hR, h.only ho, hr, hrec, ho⟩
theorem few_reopened (d : Dk) : d.reopened.Few 0 := by
  constructor <;> simp [Dk.reopened]
theorem open_again {w0 w : World} {D : Nat} {F : Nat → Prop} {count base a : Nat} {d : Dk} {P : List Pc} (h : Dsk w0 w D F d.reopened) (hd : d.lasts.length = 16) (hg : Gone 3 count base d.lasts P a) (h9 : count ≤ 9) (hb : base ≤ 1000) : Calls Try.prog 38 #[.pointer (some ⟨D, 0, none⟩), .int .i64 3, .int .i64 (count : Int), .int .i64 (base : Int)] w fun e w' => ∃ R sa sc now t, e = .returned (.tuple #[.pointer (some ⟨R, 0, none⟩), .slice sa now.length sc, .int .i64 0]) ∧ a ≤ t ∧ now = grp (P.take t) [] ∧ Hd w0 w' D F count base d.reopened (.slice sa now.length sc) now ∧ Only None' w w' := by
  refine (ropen_any (first := 3) (count := count) (base := base) h.at_ rfl (Nat.zero_le _) hg.one (by show 3 + count ≤ d.lasts.length; omega) (by omega)).mono ?_
  rintro e w' ⟨R, v, rfl, hR, hr, hrec, ho⟩
  obtain ⟨t, ht, htold⟩ := told_gone hg
  obtain ⟨now, hnow⟩ : ∃ now, now = (runG count (gAt 3 d.reopened) count base [] [] base).1 := ⟨_, rfl⟩
  rw [← hnow] at hrec
  obtain ⟨sa, sc, rfl⟩ := hrec.shape
  refine ⟨R, sa, sc, now, t, rfl, ht, hnow.trans htold, ⟨h.new ho, rfl, rfl, rfl, few_reopened d, hd, ⟨P, a, hg⟩, hrec.tells.mono fun k hk p => ⟨?_, fun e => ?_⟩, hnow.symm⟩, ho⟩
  · have := h.only.size; omega
  · have := h.at_.lt e; omega
section
variable {w0 w w' y : World} {R D T : Nat} {F F' : Nat → Prop} {count base a n n' : Nat} {d d' : Dk} {P qs : List Pc} {va vs v' : Value} {all sure : List Rec} {rec : Rec} {cs : List Value}
theorem Rn.step (h : Rn w0 w R D F count base d P a n va vs all sure T cs) (hk : Kept (fun k => F k ∨ k = R) (fun k => F' k ∨ k = R) w w') (hc : Cx w0 w' R D F' count base d' P a n') : Rn w0 w' R D F' count base d' P a n' va vs all sure T cs :=
  ⟨hc, h.ls.far hk, h.eall, h.esure, (h.box_far hk).1, h.tr, (h.box_far hk).2, h.ta, h.tn⟩
theorem Rn.more {m : Nat} (h : Rn w0 w R D F count base d P a n va vs all sure T cs) (hm : n ≤ m) : Rn w0 w R D F count base d P a m va vs all sure T cs :=
  ⟨h.cx.more hm, h.ls, h.eall, h.esure, h.box, h.tr, h.tf, h.ta, h.tn⟩
theorem Rn.synced {ad : Option Addr} {c : Nat} (h : Rn w0 w R D F count base d P a n (.slice ad all.length c) vs all sure T cs) (hk : Kept (fun k => F k ∨ k = R) (fun k => F' k ∨ k = R) w w') (hc : Cx w0 w' R D F' count base d' P P.length n') : Rn w0 w' R D F' count base d' P P.length n' (.slice ad all.length c) (.slice ad all.length c) all all T cs :=
  ⟨hc, (h.ls.far hk).sync rfl, h.eall, by rw [List.take_length]; exact h.eall, (h.box_far hk).1, h.tr, (h.box_far hk).2, h.ta, h.tn⟩
theorem Rn.pushed (h : Rn w0 w R D F count base d P a n va vs all sure T cs) (hk : Kept (fun k => F k ∨ k = R) (fun k => F' k ∨ k = R) w w') (hc : Cx w0 w' R D F' count base d' (P ++ qs) a n') (ha : a ≤ P.length) (hg : grp (P ++ qs) [] = grp P [] ++ [rec])
    (hp : Ls w0 y R F' v' vs (all ++ [rec]) sure) (ho : Only (fun k => va.ownBlock = some k) w' y) (hv : ∀ k, v'.ownBlock = some k → va.ownBlock = some k ∨ w'.heap.size ≤ k) : Rn w0 y R D F' count base d' (P ++ qs) a n' v' vs (all ++ [rec]) sure T cs := by
  obtain ⟨hb, hf⟩ := h.box_far hk
  refine ⟨hc.aside ho fun k hk' => (h.ls.far hk).al.own k hk', hp, by rw [h.eall, hg], by rw [List.take_append_of_le_length ha]; exact h.esure, hb.kept ho fun e => ?_, h.tr, hf, fun k hk' => ?_, h.tn⟩
  · have := h.ta T e; omega
  · rcases hv k hk' with e | e
    · exact h.ta k e
    · have := hb.lt; omega
end
theorem cell_one' (w : World) (v : Value) (t : TypeId) : ∀ j u, [v][j]? = some u → (w.alloc (.cells #[v] t)).cell? ((⟨w.heap.size, 0, none⟩ : Addr).add j) = some u := by
  intro j u hu
  rw [add_mid' (⟨w.heap.size, 0, none⟩) j rfl]
  match j with
  | 0 =>
    simp at hu
    subst hu
    rw [World.cell?_alloc_new]; rfl
  | j + 1 => simp at hu
end Go.Proofs.Yteoeaojebklfjaa
