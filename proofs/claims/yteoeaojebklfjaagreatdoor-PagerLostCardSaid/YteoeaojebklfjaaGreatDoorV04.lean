/- E2 R0 R1 H1 H8 Q3 in one text. -/
import Derived.Test.YteoeaojebklfjaaGreatDoorV03
import Derived.Test.YteoeaojebklfjaaGreatDoorV00
import Derived.Deep.QuietTactic
import Derived.BigRegion
import Derived.OrdersHeld
namespace Go.Proofs.YteoeaojebklfjaaGreatDoor
open Go.RowKit Go.Maps
set_option linter.unusedVariables false

structure Dsk (w0 w : World) (D : Nat) (F : Nat → Prop) (d : Dk) : Prop where
  at_ : DiskAt w D F d
  fresh : ∀ k, F k → w0.heap.size ≤ k
  only : Only None' w0 w

theorem Only.cons_new {w w' : World} {F : Nat → Prop} {w0 : World} (h : Only None' w0 w) (k : Only F w w') (hf : ∀ i, F i → w0.heap.size ≤ i) : Only None' w0 w' :=
  h.trans2 k fun i hi hF => absurd (hf i hF) (by omega)

section
variable {w0 w w' : World} {D : Nat} {F F' : Nat → Prop} {d d' : Dk}
theorem Dsk.step (h : Dsk w0 w D F d) (hd : DiskAt w' D F' d') (k : Kept F F' w w') : Dsk w0 w' D F' d' :=
  ⟨hd, fun i hi => (k.fresh i hi).elim (h.fresh i) (fun h1 => Nat.le_trans h.only.size h1), h.only.cons_new k.only h.fresh⟩
theorem Dsk.new (h : Dsk w0 w D F d) (o : Only None' w w') : Dsk w0 w' D F d := h.step (h.at_.new o) (Kept.new o)
theorem Dsk.drew (h : Dsk w0 w D F d) : Dsk w0 w.drew D F d := h.new (Only.refl _ _).drew
theorem Dsk.other (h : Dsk w0 w D F d) {G G' : Nat → Prop} (k : Kept G G' w w') (hG : ∀ i, G i → w0.heap.size ≤ i) (hn : ∀ i, F i → ¬ G i) : Dsk w0 w' D F d :=
  ⟨h.at_.only k.only hn, h.fresh, h.only.cons_new k.only hG⟩
theorem Dsk.out (h : Dsk w0 w D F d) {k : Nat} (hk : w.heap.size ≤ k) : ¬ F k := fun hF => by have := h.at_.lt hF; omega
end

theorem new_dsk (n : Nat) (k : Int) (hk : (n : Int) = k) (w0 w : World) (hw : Only None' w0 w) (h1 : 1 ≤ n) (h2 : n ≤ 65536) : Calls Tryz.prog 26 #[.int .i64 k] w fun r w' => ∃ D F, r = .returned (.tuple #[.pointer (some ⟨D, 0, none⟩), .int .i64 0]) ∧ Dsk w0 w' D F (Dk.new n) ∧ (∀ i, F i → w.heap.size ≤ i) ∧ Only None' w w' := by
  subst hk
  refine (new_any n w h1 h2).mono ?_
  rintro r w' ⟨D, F, rfl, h3, h4, h5⟩
  exact ⟨D, F, rfl, ⟨h3, fun k hk => Nat.le_trans hw.size (h4 k hk), hw.trans h5⟩, h4, h5⟩

section
variable {w0 w : World} {D : Nat} {F : Nat → Prop} {d : Dk}
def Dk.err (d : Dk) : Int := if d.due then 20 else 0
theorem Dsk.write (h : Dsk w0 w D F d) {i : Nat} {k : Int} (hk : (i : Int) = k) {s : Sec} {vb : Value} {n : Nat} (hf : d.Few n) (hn : n ≤ 999999) (hd : d.dead = false) (hi : i < d.lasts.length) (hb : Rd w 1 vb 512 (bv s)) (hap : ∀ g, vb.ownBlock = some g → ¬ F g) (hs : s.length = 512)
    {e : Int} (he : d.err = e) {d' : Dk} (hd' : d.write i s = d') :
    Calls Tryz.prog 29 #[.pointer (some ⟨D, 0, none⟩), .int .i64 k, vb] w fun r w' => r = .returned (.int .i64 e) ∧ ∃ F', Dsk w0 w' D F' d' ∧ Kept F F' w w' := by
  subst hk hd' he
  refine (write_any h.at_ hd hi hb hap hs hf hn).mono ?_
  rintro r w' ⟨rfl, F', h1, h2⟩
  exact ⟨rfl, F', h.step h1 h2, h2⟩
theorem Dsk.flush (h : Dsk w0 w D F d) {n : Nat} (hf : d.Few n) (hn : n ≤ 999999) (hd : d.dead = false) {e : Int} (he : d.err = e) {d' : Dk} (hd' : d.flush = d') :
    Calls Tryz.prog 66 #[.pointer (some ⟨D, 0, none⟩)] w fun r w' => r = .returned (.int .i64 e) ∧ ∃ F', Dsk w0 w' D F' d' ∧ Kept F F' w w' := by
  subst hd' he
  refine (flush_any h.at_ hd hf (Nat.le_trans hn (by decide))).mono ?_
  rintro r w' ⟨rfl, F', h1, h2⟩
  exact ⟨rfl, F', h.step h1 h2, h2⟩
theorem Dsk.crash (h : Dsk w0 w D F d) {n : Nat} (hf : d.Few n) (hn : n ≤ 999999) (hd : d.dead = false) {v : Value} {keep : List Bool} (hr : Rd w 1 v keep.length (bo keep)) (hap : bo keep ≠ [] → ∀ g, v.ownBlock = some g → ¬ F g) {d' : Dk} (hd' : d.crashed keep = d') :
    Calls Tryz.prog 33 #[.pointer (some ⟨D, 0, none⟩), v] w fun r w' => r = .returned (.int .i64 0) ∧ ∃ F', Dsk w0 w' D F' d' ∧ Kept F F' w w' := by
  subst hd'
  refine (Crash_any h.at_ hd hr hap (Nat.le_trans hf.waits (Nat.le_trans hn (by decide)))).mono ?_
  rintro r w' ⟨rfl, F', h1, h2⟩
  exact ⟨rfl, F', h.step h1 h2, h2⟩
theorem Dsk.setFuse (h : Dsk w0 w D F d) (hd : d.dead = false) {k : Nat} {i : Int} (hi : (k : Int) = i) {v : Value} {keep : List Bool} (hr : Rd w 1 v keep.length (bo keep)) (hn : keep.length ≤ 140737488351232) {d' : Dk} (hd' : d.fused k keep = d') :
    Calls Tryz.prog 31 #[.pointer (some ⟨D, 0, none⟩), .int .i64 i, v] w fun r w' => r = .returned (.int .i64 0) ∧ ∃ F', Dsk w0 w' D F' d' ∧ Kept F F' w w' := by
  subst hd' hi
  refine (fuse_any h.at_ hd k hr hn).mono ?_
  rintro r w' ⟨rfl, F', h1, h2⟩
  exact ⟨rfl, F', h.step h1 h2, h2⟩
theorem Dsk.read (h : Dsk w0 w D F d) {n : Nat} (hf : d.Few n) (hn : n ≤ 999999) (hd : d.dead = false) {i : Nat} {k : Int} (hk : (i : Int) = k) (hi : i < d.lasts.length) {s : Sec} (hs : d.read i = s) :
    Calls Tryz.prog 28 #[.pointer (some ⟨D, 0, none⟩), .int .i64 k] w fun r w' => ∃ g off cap, r = .returned (.tuple #[.slice (some ⟨g, off, none⟩) 512 cap, .int .i64 0]) ∧ Vec w' 1 (.slice (some ⟨g, off, none⟩) 512 cap) 512 (bv s) ∧ w.heap.size ≤ g ∧ Dsk w0 w' D F d ∧ Only None' w w' := by
  subst hk hs
  refine (read_any h.at_ hd hi (Nat.le_trans hf.waits (Nat.le_trans hn (by decide)))).mono ?_
  rintro r w' ⟨v, rfl, h1, h2, h3⟩
  obtain ⟨g, off, cap, rfl, _⟩ := h1.at_ (by decide)
  exact ⟨g, off, cap, rfl, h1, h2 g rfl, h.new h3, h3⟩
theorem Dsk.reopen (h : Dsk w0 w D F d) (hd : d.dead = true) {d' : Dk} (hd' : d.reopened = d') :
    Calls Tryz.prog 34 #[.pointer (some ⟨D, 0, none⟩)] w fun r w' => ∃ D' F', r = .returned (.tuple #[.pointer (some ⟨D', 0, none⟩), .int .i64 0]) ∧ Dsk w0 w' D' F' d' ∧ Dsk w0 w' D F d ∧ (∀ i, F' i → w.heap.size ≤ i) ∧ Only None' w w' := by
  subst hd'
  refine (reopen_any h.at_ hd).mono ?_
  rintro r w' ⟨D', F', rfl, h1, h2, h3⟩
  exact ⟨D', F', rfl, ⟨h1, fun k hk => Nat.le_trans h.only.size (h2 k hk), h.only.trans h3⟩, h.new h3, h2, h3⟩
theorem Dsk.isDead (h : Dsk w0 w D F d) {b : Bool} (hb : d.dead = b) : Calls Tryz.prog 32 #[.pointer (some ⟨D, 0, none⟩)] w fun r w' => r = .returned (.bool b) ∧ w = w' := by
  subst hb
  exact (dead_any h.at_).mono fun _ _ h => ⟨h.1, h.2.symm⟩
theorem Dsk.len (h : Dsk w0 w D F d) {n : Int} (hn : (d.lasts.length : Int) = n) : Calls Tryz.prog 41 #[.pointer (some ⟨D, 0, none⟩)] w fun r w' => r = .returned (.int .i64 n) ∧ w = w' := by
  subst hn
  exact (len_any h.at_).mono fun _ _ h => ⟨h.1, h.2.symm⟩
end

theorem Dk.Few.new {n m : Nat} : (Dk.new n).Few m := ⟨by simp [Dk.new], by simp [Dk.new], by simp [Dk.new], by simp [Dk.new], by simp [Dk.new], by simp [Dk.new]⟩
theorem Dk.Few.tick {d : Dk} {n : Nat} (h : d.Few n) : d.tick.Few (n + 1) := by
  obtain ⟨a, b, c, e, f, g⟩ := h
  exact ⟨by show d.waits.length ≤ _; omega, by show 0 ≤ d.done + 1; omega, by show d.done + 1 ≤ _; omega, by show _ ≤ d.left - 1; omega, by show d.left - 1 ≤ _; omega, g⟩
theorem Dk.Few.wrote {d : Dk} {n : Nat} (h : d.Few n) (i : Nat) (s : Sec) : (d.wrote i s).Few (n + 1) := by
  obtain ⟨a, b, c, e, f, g⟩ := h
  exact ⟨by show (d.waits ++ [(i, s)]).length ≤ _; simp; omega, b, by show d.done ≤ _; omega, by show _ ≤ d.left; omega, f, g⟩
theorem Dk.Few.wroteTick {d : Dk} {n : Nat} (h : d.Few n) (i : Nat) (s : Sec) : (d.wrote i s).tick.Few (n + 1) := by
  obtain ⟨a, b, c, e, f, g⟩ := h
  exact ⟨by show (d.waits ++ [(i, s)]).length ≤ _; simp; omega, by show 0 ≤ d.done + 1; omega, by show d.done + 1 ≤ _; omega, by show _ ≤ d.left - 1; omega, by show d.left - 1 ≤ _; omega, g⟩
theorem Dk.Few.settled {d : Dk} {n : Nat} (h : d.Few n) (k : Nat → Bool) : (d.settled k).Few n := ⟨Nat.zero_le _, h.done0, h.done, h.left0, h.left, h.keep⟩
theorem Dk.Few.crashed {d : Dk} {n : Nat} (h : d.Few n) (k : List Bool) : (d.crashed k).Few n := ⟨Nat.zero_le _, h.done0, h.done, h.left0, h.left, h.keep⟩
theorem Dk.Few.mono {d : Dk} {n m : Nat} (h : d.Few n) (hm : n ≤ m) : d.Few m := by
  obtain ⟨a, b, c, e, f, g⟩ := h
  exact ⟨by omega, b, by omega, by omega, f, g⟩
theorem Dk.Few.write {d : Dk} {n : Nat} (h : d.Few n) (i : Nat) (s : Sec) : (d.write i s).Few (n + 1) := by
  unfold Dk.write
  split
  · exact (h.wrote i s).crashed _
  · exact h.wroteTick i s
theorem Dk.Few.flush {d : Dk} {n : Nat} (h : d.Few n) : d.flush.Few (n + 1) := by
  unfold Dk.flush
  split
  · exact (h.crashed _).mono (by omega)
  · exact h.tick.settled _
theorem Dk.Few.reopened {d : Dk} {n : Nat} : d.reopened.Few n := ⟨Nat.zero_le _, Int.le_refl 0, by show (0 : Int) ≤ _; omega, by show _ ≤ (0 : Int); omega, by show (0 : Int) ≤ _; omega, Nat.zero_le _⟩
theorem sec_length (c : UInt8) : (sec c).length = 512 := List.length_replicate
theorem sec_cell {w : World} {g off cap : Nat} {c : UInt8} (h : Vec w 1 (.slice (some ⟨g, off, none⟩) 512 cap) 512 (bv (sec c))) {j : Nat} (hj : j < 512) : w.cell? ⟨g, off + j, none⟩ = some (.int .u8 (c.toNat : Int)) := by
  refine h.range j _ ?_
  rw [sec, bv_replicate, List.getElem?_replicate, if_pos hj]
theorem DiskAt.ok {w : World} {D : Nat} {F : Nat → Prop} {d : Dk} (h : DiskAt w D F d) : d.Ok := by
  obtain ⟨_, _, _, _, h, _⟩ := h
  exact h.ok
end Go.Proofs.YteoeaojebklfjaaGreatDoor
namespace Go.Proofs.YteoeaojebklfjaaGreatDoor
open Go.RowKit
set_option linter.unusedVariables false

section
variable {P : Program} (w : World)
theorem run_append_nil (t ty e : TypeId) (i : TypeInfo) (ht : P.underlying t = some (.slice e)) (hi : P.info? e = some i) (a : Addr) (n cap : Nat) (h : n ≤ cap) :
    (Builtin.append_ #[t, t] ty #[.slice (some a) n cap, .slice none 0 0]).run P w = .ok (.slice (some a) n cap) w := by
  simp [Builtin.append_, run_underlying ht, sizeOf, typeInfo, hi, Builtin.lenOf, h, Builtin.firstCells, storeCells, loadCells]

theorem run_append_rd (t ty e : TypeId) (i : TypeInfo) (z : Value) (size bytes : Nat) (ht : P.underlying t = some (.slice e)) (hi : P.info? e = some i) (hz : i.zero = some z)
    (hsize : i.size = size) (hby : i.bytes = bytes) (hzs : z.cells.size = size) (hsz : 0 < size)
    (a0 : Addr) (n cap : Nat) (xs : List Value) (hv : Vec w size (.slice (some a0) n cap) n xs) (v : Value) (m : Nat) (news : List Value) (hr : Rd w size v m news) (h1 : ∀ u ∈ news, u.oneCell' = true)
    (h63 : n + m ≤ maxLen) (hbytes : (n + m) * bytes ≤ 140737488355328) :
    ∃ v' w', (Builtin.append_ #[t, t] ty #[.slice (some a0) n cap, v]).run P w = .ok v' w' ∧ Vec w' size v' (n + m) (xs ++ news) ∧ w.grownBy w' (Value.slice (some a0) n cap).ownBlock ∧ (∀ k, v'.ownBlock = some k → (Value.slice (some a0) n cap).ownBlock = some k ∨ w.heap.size ≤ k) := by
  rcases hr.form with ⟨rfl, rfl⟩ | ⟨ad, c, rfl, _, _, hc⟩
  · have hx : news = [] := List.eq_nil_of_length_eq_zero (by simpa using hr.len)
    subst hx
    obtain ⟨a, c, e', hle, _⟩ := hv.shape
    injection e' with _ _ e3
    subst e3
    refine ⟨_, _, run_append_nil w t ty e i ht hi a0 n cap hle, by simpa using hv, ⟨rfl, rfl, rfl, Nat.le_refl _, fun _ _ _ => rfl⟩, fun k hk => .inl hk⟩
  · exact run_vec_append w t ty e i z size bytes ht hi hz hsize hby hzs hsz _ n xs hv ad m c news hr.len hc h1 h63 hbytes

theorem wpList_append_rd {ops : Array Oper} {rest : List Oper} {o : Oper} {a : Act} {Q : Exit → Act → World → Prop} (hgd : o.guard = none) (s x : Operand) (t : TypeId)
    (ho : o.op = .call { callee := .builtin .append, args := #[s, x], argTypes := #[t, t] })
    (e : TypeId) (i : TypeInfo) (z : Value) (size bytes : Nat) (ht : P.underlying t = some (.slice e)) (hi : P.info? e = some i) (hz : i.zero = some z)
    (hsize : i.size = size) (hby : i.bytes = bytes) (hzs : z.cells.size = size) (hsz : 0 < size)
    (a0 : Addr) (n cap : Nat) (xs : List Value) (hs : a.eval s = .slice (some a0) n cap) (hv : Vec w size (.slice (some a0) n cap) n xs)
    (v : Value) (m : Nat) (news : List Value) (hx : a.eval x = v) (hr : Rd w size v m news) (h1 : ∀ u ∈ news, u.oneCell' = true)
    (h63 : n + m ≤ maxLen) (hbytes : (n + m) * bytes ≤ 140737488355328)
    (h : ∀ v' w', Vec w' size v' (n + m) (xs ++ news) → w.grownBy w' (Value.slice (some a0) n cap).ownBlock → (∀ k, v'.ownBlock = some k → (Value.slice (some a0) n cap).ownBlock = some k ∨ w.heap.size ≤ k) → wpList P ops Q rest (a.put o.dst v') w') : wpList P ops Q (o :: rest) a w :=
  wpList_plain hgd fun K hK => by
    obtain ⟨v', w', hrun, h2, h3, h4⟩ := run_append_rd (P := P) w t o.type e i z size bytes ht hi hz hsize hby hzs hsz a0 n cap xs hv v m news hr h1 h63 hbytes
    unfold Oper.wp execOp
    simp only [ho, resolve, invoke, builtin, Sem.run_bind, Sem.run_pure, Result.andThen_ok, List.map_toArray, List.map_cons, List.map_nil, hs, hx, hrun]
    exact hK _ _ (h v' w' h2 h3 h4)
end

structure Fresh (w w' : World) (size : Nat) (v' : Value) (n : Nat) (xs : List Value) : Prop where
  vec : Vec w' size v' n xs
  fresh : ∀ k, v'.ownBlock = some k → w.heap.size ≤ k
  only : Only None' w w'
theorem fresh_of {w w1 : World} {size n : Nat} {v' : Value} {xs : List Value} {o : Obj} (hv : Vec w1 size v' (0 + n) ([] ++ xs)) (hg : (w.alloc o).grownBy w1 (some w.heap.size)) (hf : ∀ k, v'.ownBlock = some k → some w.heap.size = some k ∨ (w.alloc o).heap.size ≤ k) : Fresh w w1 size v' n xs := by
  rw [Nat.zero_add, List.nil_append] at hv
  refine ⟨hv, fun k hk => ?_, Only.of_below (((Below.refl _ w).alloc (Nat.le_refl _) o).grown hg (by simp) (by intro k hk; injection hk with hk; omega)) _⟩
  rcases hf k hk with h | h
  · injection h with h; omega
  · simp at h; omega
theorem empty_row (w : World) (e : TypeId) (size : Nat) : Vec (w.alloc (.cells #[] e)) size (.slice (some ⟨w.heap.size, 0, none⟩) 0 0) 0 [] :=
  ⟨by simp, .inr ⟨w.heap.size, 0, 0, rfl, Nat.le_refl _, Nat.zero_le _, by simp, fun j u hu => by simp at hu, fun j hj => by omega⟩⟩

end Go.Proofs.YteoeaojebklfjaaGreatDoor
namespace Go.Proofs.YteoeaojebklfjaaGreatDoor
open Go.RowKit Go.Maps
set_option linter.unusedVariables false

def st (s : Sec) : ByteArray := ⟨s.toArray⟩
def rw_ (p : Nat × Sec) : List Value := [.int .i64 (p.1 : Int), .string (st p.2)]
theorem rw_length (p : Nat × Sec) : (rw_ p).length = 2 := rfl
theorem rw_one (p : Nat × Sec) : ∀ u ∈ rw_ p, u.oneCell' = true := by
  intro u hu
  simp only [rw_, List.mem_cons, List.not_mem_nil, or_false] at hu
  rcases hu with rfl | rfl <;> rfl

structure CellsR (w : World) (X : Nat) (us : List Value) : Prop where
  is : ∀ i u, us[i]? = some u → w.cell? ⟨X, i, none⟩ = some u
  thaw : ∀ i, w.frozen? ⟨X, i, none⟩ = false
  lt : X < w.heap.size
theorem CellsR.kept {w w' : World} {X : Nat} {us : List Value} (c : CellsR w X us) {S : Nat → Prop} (ho : Only S w w') (hn : ¬ S X) : CellsR w' X us :=
  ⟨fun i u hu => (ho.cell c.lt hn i).trans (c.is i u hu), fun i => (ho.frozen c.lt hn i).trans (c.thaw i), Nat.lt_of_lt_of_le c.lt ho.size⟩
theorem CellsR.set {w : World} {X : Nat} {us : List Value} (c : CellsR w X us) {i : Nat} (hi : i < us.length) (v : Value) : CellsR (w.setCell ⟨X, i, none⟩ v) X (us.set i v) := by
  refine ⟨fun j u hu => ?_, fun j => by rw [World.frozen?_setCell]; exact c.thaw j, by rw [heap_size_setCell]; exact c.lt⟩
  by_cases e : i = j
  · subst e
    rw [List.getElem?_set_self hi] at hu
    injection hu with hu
    subst hu
    exact World.cell?_setCell_same _ _ _ (c.is i _ (List.getElem?_eq_getElem hi))
  · rw [List.getElem?_set_ne e] at hu
    exact (cell_aside w X i j v e).trans (c.is j u hu)
end Go.Proofs.YteoeaojebklfjaaGreatDoor
namespace Go.Proofs.YteoeaojebklfjaaGreatDoor
open Go.RowKit Go.Maps
set_option linter.unusedVariables false

structure Rg where
  first : Nat
  count : Nat
  base : Nat
  last : Nat
  top : Nat

def big : Nat := 4611686018427387904

structure Rg.Ok (r : Rg) : Prop where
  count : 1 ≤ r.count
  small : r.first + r.count ≤ 65536
  bl : r.base ≤ r.last
  lt : r.last ≤ r.top
  room : r.last ≤ r.base + r.count
  top : r.top ≤ 4611686018427387904

abbrev RingAt (w : World) (R D : Nat) (r : Rg) : Prop := CellsR w R [.pointer (some ⟨D, 0, none⟩), .int .i64 (r.first : Int), .int .i64 (r.count : Int), .int .i64 (r.base : Int), .int .i64 (r.last : Int), .int .i64 (r.top : Int)]

def Rg.room (r : Rg) : Nat := if r.last < r.top then 0 else r.count - (r.last - r.base)
def Rg.place (r : Rg) (n : Nat) : Nat := r.first + n % r.count

theorem top_nil (w : World) : Calls Tryz.prog 50 #[.pointer none] w fun r w' => r = .returned (.int .i64 0) ∧ w' = w := by
  go_enter Tryz.func50, Tryz.ntmps50
  go_wp2
  go_ret
  exact ⟨rfl, rfl⟩
theorem room_nil (w : World) : Calls Tryz.prog 85 #[.pointer none] w fun r w' => r = .returned (.int .i64 0) ∧ w' = w := by
  go_enter Tryz.func85, Tryz.ntmps85
  go_wp2
  go_ret
  exact ⟨rfl, rfl⟩
theorem ralive_nil (w : World) : Calls Tryz.prog 82 #[.pointer none] w fun r w' => r = .returned (.int .i64 2) ∧ w' = w := by
  go_enter Tryz.func82, Tryz.ntmps82
  go_wp2
  go_ret
  exact ⟨rfl, rfl⟩
theorem sync_nil (w : World) : Calls Tryz.prog 51 #[.pointer none] w fun r w' => r = .returned (.int .i64 2) ∧ w' = w := by
  have hc := ralive_nil w
  go_enter Tryz.func51, Tryz.ntmps51
  go_wp2_with fail
  refine hc.mono ?_
  rintro r w1 ⟨rfl, rfl⟩
  clear hc
  go_wp2_with fail
  go_ret
  exact ⟨rfl, rfl⟩

section
variable {w : World} {R D : Nat} {r : Rg}
theorem top_any (h : RingAt w R D r) : Calls Tryz.prog 50 #[.pointer (some ⟨R, 0, none⟩)] w fun e w' => e = .returned (.int .i64 (r.top : Int)) ∧ w' = w := by
  have c := h.is 5 _ rfl
  clear h
  go_enter Tryz.func50, Tryz.ntmps50
  go_wp2
  go_ret
  exact ⟨rfl, rfl⟩
theorem torn_any (h : RingAt w R D r) : Calls Tryz.prog 84 #[.pointer (some ⟨R, 0, none⟩)] w fun e w' => e = .returned (.bool (decide (r.last < r.top))) ∧ ∃ q, w' = w.drewN q := by
  have c4 := h.is 4 _ rfl
  have c5 := h.is 5 _ rfl
  clear h
  go_enter Tryz.func84, Tryz.ntmps84
  go_wp2_with fail
  go_quiet (fail)
  go_wp2_with fail
  go_ret
  exact ⟨rfl, nq, rfl⟩
theorem place_any (h : RingAt w R D r) (hok : r.Ok) {n : Nat} (hn : n ≤ 4611686018427387904) : Calls Tryz.prog 87 #[.pointer (some ⟨R, 0, none⟩), .int .i64 (n : Int)] w fun e w' => e = .returned (.int .i64 (r.place n : Int)) ∧ ∃ q, w' = w.drewN q := by
  have c1 := h.is 1 _ rfl
  have c2 := h.is 2 _ rfl
  have h0 := hok.count
  have h1 := hok.small
  obtain ⟨cn, hcn⟩ : ∃ cn, cn = r.count := ⟨_, rfl⟩
  obtain ⟨fi, hfi⟩ : ∃ fi, fi = r.first := ⟨_, rfl⟩
  have hp : r.place n = fi + n % cn := by rw [hcn, hfi]; rfl
  rw [hp]
  rw [← hcn] at c2 h0 h1
  rw [← hfi] at c1 h1
  have hm := Nat.mod_lt n (show cn > 0 by omega)
  have z0 : ¬ (cn : Int) = 0 := by omega
  have z1 : ((cn : Int) == 0) = false := by simpa using z0
  have z2 : ¬ cn = 0 := by omega
  have z3 : (cn == 0) = false := by simpa using z2
  obtain ⟨m, hm'⟩ : ∃ m, m = n % cn := ⟨_, rfl⟩
  have e1 : (n : Int).tmod (cn : Int) = (m : Int) := by rw [hm']; rfl
  have e2 : IntKind.i64.wrap ((m : Int)) = (m : Int) := IntWalk.i64_in _ (by omega)
  have e3 : IntKind.i64.wrap ((fi : Int) + (m : Int)) = ((fi + m : Nat) : Int) := by rw [IntWalk.i64_in _ (by omega)]; rfl
  rw [← hm']
  clear h hok hcn hfi hp hm'
  go_enter Tryz.func87, Tryz.ntmps87
  go_wp2_with fail
  go_quiet (fail)
  go_wp2_with fail
  go_ret
  exact ⟨rfl, nq, rfl⟩

theorem room_any (h : RingAt w R D r) (hok : r.Ok) : Calls Tryz.prog 85 #[.pointer (some ⟨R, 0, none⟩)] w fun e w' => e = .returned (.int .i64 (r.room : Int)) ∧ ∃ q, w' = w.drewN q := by
  have ht := torn_any h
  have c2 := h.is 2 _ rfl
  have c3 := h.is 3 _ rfl
  have c4 := h.is 4 _ rfl
  obtain ⟨k1, k2, k3, k4, k5, k6⟩ := hok
  obtain ⟨cn, hcn⟩ : ∃ cn, cn = r.count := ⟨_, rfl⟩
  obtain ⟨ba, hba⟩ : ∃ ba, ba = r.base := ⟨_, rfl⟩
  obtain ⟨la, hla⟩ : ∃ la, la = r.last := ⟨_, rfl⟩
  have hr : r.room = if la < r.top then 0 else cn - (la - ba) := by rw [hcn, hba, hla]; rfl
  rw [hr]
  rw [← hla] at ht c4 k3 k4 k5
  rw [← hcn] at c2 k1 k2 k5
  rw [← hba] at c3 k3 k5
  cases hb : decide (la < r.top)
  · rw [hb] at ht
    have hb' : ¬ la < r.top := by simpa using hb
    rw [if_neg hb']
    have HT := Lib.hid ht
    have e1 : IntKind.i64.wrap ((la : Int) - (ba : Int)) = ((la - ba : Nat) : Int) := by rw [IntWalk.i64_in _ (by omega)]; omega
    obtain ⟨m, hm⟩ : ∃ m, m = la - ba := ⟨_, rfl⟩
    rw [← hm] at e1
    have e2 : IntKind.i64.wrap ((cn : Int) - (m : Int)) = ((cn - m : Nat) : Int) := by rw [IntWalk.i64_in _ (by omega)]; omega
    have E : Hid ((cn - (la - ba) : Nat) = cn - m) := by show _ = _; rw [hm]
    have HM := Lib.hid (show (la : Int) - (ba : Int) = (m : Int) ∧ (cn : Int) - (m : Int) = ((cn - m : Nat) : Int) by omega)
    clear ht hb hb' h hr hcn hba hla hm k1 k2 k3 k4 k5 k6
    go_enter Tryz.func85, Tryz.ntmps85
    go_wp2_with fail
    refine HT.out.mono ?_
    rintro e w1 ⟨rfl, q, rfl⟩
    go_wp2_with fail
    go_quiet (fail)
    go_wp2_with fail
    go_ret
    refine ⟨?_, q + nq, by rw [World.drewN_drewN]⟩
    rw [E.out]
    first | rfl | (rw [HM.out.1, HM.out.2]; rfl) | (rw [← HM.out.2, ← HM.out.1]; rfl) | (trace_state; fail)
  · rw [hb] at ht
    have hb' : la < r.top := by simpa using hb
    rw [if_pos hb']
    have HT := Lib.hid ht
    clear ht hb hb' h hr hcn hba hla k1 k2 k3 k4 k5 k6
    go_enter Tryz.func85, Tryz.ntmps85
    go_wp2_with fail
    refine HT.out.mono ?_
    rintro e w1 ⟨rfl, q, rfl⟩
    go_wp2_with fail
    go_ret
    exact ⟨rfl, q, rfl⟩

theorem ralive_any {F : Nat → Prop} {d : Dk} (h : RingAt w R D r) (hd : DiskAt w D F d) : Calls Tryz.prog 82 #[.pointer (some ⟨R, 0, none⟩)] w fun e w' => e = .returned (.int .i64 (if d.dead then 20 else 0)) ∧ w' = w := by
  have hc := dead_any hd
  have c0 := h.is 0 _ rfl
  clear h hd
  cases hb : d.dead
  · rw [hb] at hc
    have HC := Lib.hid hc
    clear hc hb
    go_enter Tryz.func82, Tryz.ntmps82
    go_wp2_with fail
    refine HC.out.mono ?_
    rintro e w1 ⟨rfl, rfl⟩
    go_wp2_with fail
    go_ret
    exact ⟨rfl, rfl⟩
  · rw [hb] at hc
    have HC := Lib.hid hc
    clear hc hb
    go_enter Tryz.func82, Tryz.ntmps82
    go_wp2_with fail
    refine HC.out.mono ?_
    rintro e w1 ⟨rfl, rfl⟩
    go_wp2_with fail
    go_ret
    exact ⟨rfl, rfl⟩
end

def piecesOf (n : Nat) : Nat := if n = 0 then 1 else (n - 1) / 501 + 1
theorem pieces_neg (n : Int) (w : World) (h : n < 0) : Calls Tryz.prog 83 #[.int .i64 n] w fun r w' => r = .returned (.int .i64 0) ∧ w' = w := by
  go_enter Tryz.func83, Tryz.ntmps83
  go_wp2_with fail
  go_ret
  exact ⟨rfl, rfl⟩
theorem pieces_any (n : Nat) (w : World) (h : n ≤ 4611686018427387904) : Calls Tryz.prog 83 #[.int .i64 (n : Int)] w fun r w' => r = .returned (.int .i64 (piecesOf n : Int)) ∧ w' = w := by
  by_cases h0 : n = 0
  · subst h0
    go_enter Tryz.func83, Tryz.ntmps83
    go_wp2_with fail
    go_ret
    exact ⟨rfl, rfl⟩
  · have h1 : ¬ (n : Int) < 0 := by omega
    have h2 : ((n : Int) == 0) = false := by simpa using h0
    have h3 : ¬ (n : Int) = 0 := by omega
    have e1 : wrap64 ((n : Int) - 1) = ((n - 1 : Nat) : Int) := by rw [IntWalk.wrap64_in _ (by omega)]; omega
    obtain ⟨m, hm⟩ : ∃ m, m = n - 1 := ⟨_, rfl⟩
    have hp : piecesOf n = m / 501 + 1 := by rw [hm]; unfold piecesOf; rw [if_neg h0]
    rw [hp]
    have HM := Lib.hid (And.intro hm h)
    clear hp hm h
    go_enter Tryz.func83, Tryz.ntmps83
    go_wp2_with fail
    go_ret
    have hb := HM.out.2
    have hm := HM.out.1
    have e : wrap64 (wrap64 ((m : Int) / 501) + 1) = ((m / 501 + 1 : Nat) : Int) := by
      rw [IntWalk.wrap64_in ((m : Int) / 501) (by omega), IntWalk.wrap64_in _ (by omega)]
      omega
    refine ⟨?_, rfl⟩
    show Ending.returned (.int .i64 (wrap64 (wrap64 (((n - 1 : Nat) : Int) / 501) + 1))) = Ending.returned (.int .i64 ((m / 501 + 1 : Nat) : Int))
    rw [← hm, e]
end Go.Proofs.YteoeaojebklfjaaGreatDoor
namespace Go.Proofs.YteoeaojebklfjaaGreatDoor
open Go.RowKit Go.Maps
set_option linter.unusedVariables false

def Rg.emptied (r : Rg) : Rg := { r with base := r.top, last := r.top }

set_option maxHeartbeats 1000000 in
theorem sync_dead {w : World} {R D : Nat} {F : Nat → Prop} {r : Rg} {d : Dk} (h : RingAt w R D r) (hd : DiskAt w D F d) (hdd : d.dead = true) : Calls Tryz.prog 51 #[.pointer (some ⟨R, 0, none⟩)] w fun e w' => e = .returned (.int .i64 20) ∧ w' = w := by
  have ha := ralive_any h hd
  rw [hdd] at ha
  have HA := Lib.hid ha
  clear ha hd hdd h
  go_enter Tryz.func51, Tryz.ntmps51
  go_wp2_with fail
  refine HA.out.mono ?_
  rintro e w1 ⟨rfl, rfl⟩
  go_wp2_with fail
  go_ret
  exact ⟨rfl, rfl⟩
set_option maxHeartbeats 1000000 in
theorem sync_any {w : World} {R D : Nat} {F : Nat → Prop} {r : Rg} {d : Dk} (h : RingAt w R D r) (hd : DiskAt w D F d) (hdd : d.dead = false) {n : Nat} (hf : d.Few n) (hn : n ≤ 999999) : Calls Tryz.prog 51 #[.pointer (some ⟨R, 0, none⟩)] w fun e w' => e = .returned (.int .i64 d.err) ∧ ∃ F', DiskAt w' D F' d.flush ∧ Kept F F' w w' := by
  have ha := ralive_any h hd
  rw [hdd] at ha
  have HA := Lib.hid ha
  have c0 := h.is 0 _ rfl
  have hfl := flush_any hd hdd hf (Nat.le_trans hn (by decide))
  cases hu : d.due
  · have he : d.err = 0 := by unfold Dk.err; rw [hu]; rfl
    rw [he]
    rw [hu] at hfl
    have HF := Lib.hid hfl
    clear ha hd hdd h hu he hfl hf hn
    go_enter Tryz.func51, Tryz.ntmps51
    go_wp2_with fail
    refine HA.out.mono ?_
    rintro e w1 ⟨rfl, rfl⟩
    go_wp2_with fail
    refine HF.out.mono ?_
    rintro e w1 ⟨rfl, F', h1, h2⟩
    go_wp2_with fail
    go_ret
    exact ⟨rfl, F', h1, h2⟩
  · have he : d.err = 20 := by unfold Dk.err; rw [hu]; rfl
    rw [he]
    rw [hu] at hfl
    have HF := Lib.hid hfl
    clear ha hd hdd h hu he hfl hf hn
    go_enter Tryz.func51, Tryz.ntmps51
    go_wp2_with fail
    refine HA.out.mono ?_
    rintro e w1 ⟨rfl, rfl⟩
    go_wp2_with fail
    refine HF.out.mono ?_
    rintro e w1 ⟨rfl, F', h1, h2⟩
    go_wp2_with fail
    go_ret
    exact ⟨rfl, F', h1, h2⟩
end Go.Proofs.YteoeaojebklfjaaGreatDoor
namespace Go.Proofs.YteoeaojebklfjaaGreatDoor
open Go.RowKit
set_option linter.unusedVariables false

theorem Only.quiet {S : Nat → Prop} {a b c : World} (h : Only S a b) (k : Only None' b c) : Only S a c := h.trans2 k fun _ _ e => e.elim
section
variable {P : Program} {ops : Array Oper} {Q : Exit → Act → World → Prop} {md : Region.Mode} {w0 : World} {S : Nat → Prop}
def YR (P : Program) (ops : Array Oper) (S : Nat → Prop) (w0 : World) (o : Oper) (v : Value) (a : Act) : Prop :=
  (Region.wanted o (yielded ops a.tmps) = true ∧ ∀ w, Only S w0 w →
    (∃ w', (execOp a.eval o).run P w = .ok (.value v) w' ∧ Only None' w w') ∨
    (∃ f args, (execOp a.eval o).run P w = .ok (.enter f args) w ∧ Calls P f args w fun e w' => e = .returned v ∧ Only None' w w')) ∨
  (Region.wanted o (yielded ops a.tmps) = false ∧ v = undef)
theorem YR.wpOp {i : Nat} {o : Oper} {v : Value} {a : Act} (hi : ops[i]? = some o) (hy : YR P ops S w0 o v a)
    {K : Act → World → Prop} {w : World} (hS : Only S w0 w) (h : ∀ w', Only None' w w' → K (a.put o.dst v) w') : wpOp P ops Q i K a w := by
  unfold Go.wpOp
  simp only [hi]
  rcases hy with ⟨hw, hv⟩ | ⟨hw, rfl⟩
  · simp only [hw, if_true]
    refine .inl ?_
    unfold Oper.wp
    rcases hv w hS with ⟨w', h1, h2⟩ | ⟨f, args, h1, h2⟩
    · rw [h1]; exact h w' h2
    · rw [h1, Oper.upon_enter]
      refine h2.mono ?_
      rintro e w' ⟨rfl, h3⟩
      exact h w' h3
  · simp only [hw, Bool.false_eq_true, if_false]; exact h w (Only.refl _ _)
theorem YR.of_same {o : Oper} {v : Value} {a a' : Act} (hy : YR P ops S w0 o v a) (he : execOp a'.eval o = execOp a.eval o)
    (hw : Region.wanted o (yielded ops a'.tmps) = Region.wanted o (yielded ops a.tmps)) : YR P ops S w0 o v a' := by
  unfold YR at *
  rw [he, hw]
  exact hy
theorem wpOp_putR {j : Nat} {oi oj : Oper} {v : Value} (hj : ops[j]? = some oj) (hap : oi.apart ops oj = true)
    (hsi : ∀ cs b, oi.op ≠ .select cs b) (hsj : ∀ cs b, oj.op ≠ .select cs b)
    (hQ : ∀ c a w, Q (.panic c) (a.put oi.dst v) w → Q (.panic c) a w) {K : Act → World → Prop} {a : Act} {w : World}
    (hy : YR P ops S w0 oi v a) (h : wpOp P ops Q j K (a.put oi.dst v) w) :
    wpOp P ops Q j (fun a' w' => YR P ops S w0 oi v a' ∧ K (a'.put oi.dst v) w') a w := by
  obtain ⟨h1, h2, h3⟩ := Oper.apart_spec hap
  have keep : ∀ (a : Act), YR P ops S w0 oi v a → ∀ u, YR P ops S w0 oi v (a.put oj.dst u) := fun a hy u =>
    hy.of_same (execOp_put oi hsi a oj.dst u h3) (wanted_put oi a oj.dst u h3)
  have keepD : ∀ d, YR P ops S w0 oi v { a with defers := d :: a.defers } := fun d => hy.of_same rfl rfl
  unfold wpOp at *
  simp only [hj] at *
  rw [wanted_put oj a oi.dst v h1] at h
  split
  · rename_i hw
    simp only [hw, if_true] at h
    rcases h with h | ⟨hasks, hlets⟩
    case inr => exact .inr ⟨by unfold Oper.asks at *; rw [execOp_put oj hsj a oi.dst v h1] at hasks; exact hasks, hlets⟩
    refine .inl ?_
    unfold Oper.wp at *
    rw [execOp_put oj hsj a oi.dst v h1] at h
    generalize (execOp a.eval oj).run P w = r at *
    cases r with
    | ok n w' =>
      cases n <;> simp only [Oper.upon] at h ⊢
      case value u => exact ⟨keep a hy u, by rw [← Act.put_comm a v u h2]; exact h⟩
      case skip => exact ⟨keep a hy _, by rw [← Act.put_comm a v undef h2]; exact h⟩
      case defer d =>
        refine ⟨keep _ (keepD d) _, ?_⟩
        rw [← Act.put_comm _ v undef h2, ← Act.put_defers]
        exact h
      case enter f args =>
        refine Calls.mono h fun e w'' he => ?_
        cases e with
        | returned u => exact ⟨keep a hy u, by rw [← Act.put_comm a v u h2]; exact he⟩
        | panicked c => exact hQ _ _ _ he
        | outgrown => exact he
      case row row args => exact Rows.mono h fun u w'' he => ⟨keep a hy u, by rw [← Act.put_comm a v u h2]; exact he⟩
    | halt x w' =>
      cases x <;> simp only [Oper.upon] at h ⊢
      case panic u => exact hQ _ _ _ h
  · rename_i hw
    simp only [hw] at h
    exact ⟨keep a hy _, by rw [← Act.put_comm a v undef h2]; exact h⟩
def AnyR (P : Program) (md : Region.Mode) (ops : Array Oper) (Q : Exit → Act → World → Prop) (S : Nat → Prop) (w0 : World) : Nat → Array Bool → Act → World → Prop
  | 0, listed, a, w => Region.ready md ops listed = [] ∧ ∀ w', Only None' w w' → Q .normal a w'
  | fuel + 1, listed, a, w => (Region.ready md ops listed = [] → ∀ w', Only None' w w' → Q .normal a w') ∧
    ∀ w', Only None' w w' → ∀ i ∈ Region.ready md ops listed, wpOp P ops Q i (fun a' w'' => Only S w0 w'' ∧ AnyR P md ops Q S w0 fuel (listed.setIfInBounds i true) a' w'') a w'
theorem AnyR.later {fuel : Nat} {listed : Array Bool} {a : Act} {w w1 : World} (h : AnyR P md ops Q S w0 fuel listed a w) (o : Only None' w w1) : AnyR P md ops Q S w0 fuel listed a w1 := by
  cases fuel with
  | zero => exact ⟨h.1, fun w' o' => h.2 w' (o.trans o')⟩
  | succ n => exact ⟨fun hr w' o' => h.1 hr w' (o.trans o'), fun w' o' => h.2 w' (o.trans o')⟩
theorem any_of_R : ∀ (fuel : Nat) (listed : Array Bool) (a : Act) (w : World), AnyR P md ops Q S w0 fuel listed a w → wpAny P md ops Q fuel listed a w
  | 0, _, _, w, h => ⟨h.1, h.2 w (Only.refl _ _)⟩
  | fuel + 1, _, _, w, h => ⟨fun hr => h.1 hr w (Only.refl _ _), fun i hi => wpOp_mono (fun a' w' h' => any_of_R fuel _ a' w' h'.2) (h.2 w (Only.refl _ _) i hi)⟩
theorem anyR_first {i : Nat} {oi : Oper} {v : Value} (hi : ops[i]? = some oi) (hsel : ∀ (j : Nat) (o : Oper) cs b, ops[j]? = some o → o.op ≠ .select cs b)
    (hQ : ∀ c a w, Q (.panic c) (a.put oi.dst v) w → Q (.panic c) a w) :
    ∀ (fuel : Nat) (listed : Array Bool) (a : Act) (w : World),
      (∀ j oj, ops[j]? = some oj → j ≠ i → listed.getD j true = false → (∀ e ∈ oj.after, Region.binds md e = true → e.on ≠ i) → oi.apart ops oj = true) →
      i ∈ Region.ready md ops listed → YR P ops S w0 oi v a → Only S w0 w →
      AnyR P md ops Q S w0 fuel (listed.setIfInBounds i true) (a.put oi.dst v) w → AnyR P md ops Q S w0 (fuel + 1) listed a w := by
  intro fuel
  induction fuel with
  | zero =>
    intro listed a w _ hr hy hS H
    refine ⟨fun h => (by rw [h] at hr; cases hr), fun w' o' j hj => ?_⟩
    by_cases hji : j = i
    · subst hji; exact hy.wpOp hi (hS.quiet o') fun w'' o'' => ⟨(hS.quiet o').quiet o'', H.later (o'.trans o'')⟩
    · have := ready_mono hj hji
      rw [H.1] at this
      cases this
  | succ fuel ih =>
    intro listed a w hfree hr hy hS H
    refine ⟨fun h => (by rw [h] at hr; cases hr), fun w' o' j hj => ?_⟩
    by_cases hji : j = i
    · subst hji; exact hy.wpOp hi (hS.quiet o') fun w'' o'' => ⟨(hS.quiet o').quiet o'', H.later (o'.trans o'')⟩
    · have h1 := H.2 w' o' j (ready_mono hj hji)
      obtain ⟨hjun, oj, hoj, hall⟩ := mem_ready.1 hj
      have hnot : ∀ e ∈ oj.after, Region.binds md e = true → e.on ≠ i := fun e he hb heq => by
        have h1 := hall e he hb
        have h0 := (mem_ready.1 hr).1
        rw [heq] at h1
        rcases Nat.lt_or_ge i listed.size with h' | h'
        · simp [h'] at h0 h1; rw [h0] at h1; cases h1
        · simp [Array.getElem?_eq_none h'] at h1
      have h2 := wpOp_putR hoj (hfree j oj hoj hji hjun hnot) (fun cs b => hsel i oi cs b hi) (fun cs b => hsel j oj cs b hoj) hQ hy h1
      have hfree' : ∀ k ok, ops[k]? = some ok → k ≠ i → (listed.setIfInBounds j true).getD k true = false →
          (∀ e ∈ ok.after, Region.binds md e = true → e.on ≠ i) → oi.apart ops ok = true := fun k ok hk hki hun hno => by
        refine hfree k ok hk hki ?_ hno
        by_cases hjk : j = k
        · subst hjk; exact hjun
        · rw [getD_set_ne true hjk] at hun; exact hun
      refine wpOp_mono (fun a' w'' h3 => ⟨h3.2.1, ih (listed.setIfInBounds j true) a' w'' hfree' (ready_mono hr (Ne.symm hji)) h3.1 h3.2.1 ?_⟩) h2
      rw [Array.setIfInBounds_comm _ _ hji]
      exact h3.2.2
end
section
variable {P : Program} {md : Region.Mode} {l : List Oper} {Q : Exit → Act → World → Prop} {w0 : World} {S : Nat → Prop}
theorem r_drop {l : List Oper} {i : Nat} {oi : Oper} {rs : List Oper} (hi : l.drop i = oi :: rs) : l.toArray[i]? = some oi := by
  rw [List.getElem?_toArray]
  have : (l.drop i)[0]? = some oi := by rw [hi]; rfl
  rwa [List.getElem?_drop, Nat.add_zero] at this
theorem r_begin {id : Nat} {a : Act} {w : World} (hm : P.follows .mixedOrders = true)
    (h : AnyR P .any l.toArray Q S w (List.length l) (Array.replicate (List.length l) false) a w) : (Code.region id l.toArray true).wp P Q a w := by
  have hd : Only None' w ({ w with drawn := w.drawn + 1 } : World) := (Only.refl _ w).drew
  refine wp_region_any hm ?_
  exact any_of_R _ _ _ _ (h.later hd)
theorem r_take (i : Nat) (v : Value) {oi : Oper} {rs : List Oper} {fuel : Nat} {listed : Array Bool} {a : Act} {w : World} (hi : l.drop i = oi :: rs)
    (hc : (Region.noSelect l.toArray && Region.free md l.toArray listed i && (Region.ready md l.toArray listed).contains i) = true)
    (hQ : ∀ c a w, Q (.panic c) (a.put oi.dst v) w → Q (.panic c) a w) (hS : Only S w0 w) (hy : YR P l.toArray S w0 oi v a)
    (h : AnyR P md l.toArray Q S w0 fuel (listed.setIfInBounds i true) (a.put oi.dst v) w) : AnyR P md l.toArray Q S w0 (fuel + 1) listed a w := by
  simp only [Bool.and_eq_true] at hc
  exact anyR_first (r_drop hi) (Region.noSelect_spec hc.1.1) hQ fuel listed a w (Region.free_spec (r_drop hi) hc.1.2) (by simpa using hc.2) hy hS h
theorem r_one (i : Nat) {oi : Oper} {rs : List Oper} {fuel : Nat} {listed : Array Bool} {a : Act} {w : World} (hi : l.drop i = oi :: rs)
    (hr : Region.ready md l.toArray listed = [i]) (hw : Region.wanted oi (yielded l.toArray a.tmps) = true)
    (h : ∀ w', Only None' w w' → Oper.wp P oi a w' (fun a' w'' => Only S w0 w'' ∧ AnyR P md l.toArray Q S w0 fuel (listed.setIfInBounds i true) a' w'') Q) : AnyR P md l.toArray Q S w0 (fuel + 1) listed a w := by
  refine ⟨fun h0 => (by rw [hr] at h0; cases h0), fun w' o' j hj => ?_⟩
  rw [hr, List.mem_singleton] at hj
  subst hj
  unfold wpOp
  simp only [r_drop hi, hw, if_true]
  exact .inl (h w' o')
theorem r_done {fuel : Nat} {listed : Array Bool} {a : Act} {w : World} (hr : Region.ready md l.toArray listed = []) (h : ∀ w', Only None' w w' → Q .normal a w') : AnyR P md l.toArray Q S w0 fuel listed a w := by
  cases fuel with
  | zero => exact ⟨hr, h⟩
  | succ n => exact ⟨fun _ => h, fun w' o' j hj => by rw [hr] at hj; cases hj⟩
theorem YR.pure {o : Oper} {v : Value} {a : Act} (hw : Region.wanted o (yielded l.toArray a.tmps) = true) (h : ∀ w, Only S w0 w → (execOp a.eval o).run P w = .ok (.value v) w) : YR P l.toArray S w0 o v a :=
  .inl ⟨hw, fun w o => .inl ⟨w, h w o, Only.refl _ _⟩⟩
theorem YR.call {o : Oper} {v : Value} {a : Act} {f : Nat} {args : Array Value} (hw : Region.wanted o (yielded l.toArray a.tmps) = true) (h : ∀ w, (execOp a.eval o).run P w = .ok (.enter f args) w) (hc : ∀ w, Only S w0 w → Calls P f args w fun e w' => e = .returned v ∧ Only None' w w') : YR P l.toArray S w0 o v a :=
  .inl ⟨hw, fun w o => .inr ⟨f, args, h w, hc w o⟩⟩
end
section
variable {P : Program} {l : List Oper} {Q : Exit → Act → World → Prop} {w0 : World}
theorem p_begin {id : Nat} {a : Act} {w : World} (h : ∀ w', Only None' w w' → wpOps P l.toArray Q (List.range (List.length l)) a w') : (Code.region id l.toArray false).wp P Q a w :=
  wp_region (h w (Only.refl _ _))
theorem p_take (i : Nat) (v : Value) {oi : Oper} {rs : List Oper} {is : List Nat} {a : Act} (hi : l.drop i = oi :: rs) (hy : YR P l.toArray None' w0 oi v a)
    (h : ∀ w', Only None' w0 w' → wpOps P l.toArray Q is (a.put oi.dst v) w') : ∀ w', Only None' w0 w' → wpOps P l.toArray Q (i :: is) a w' := fun w' o => by
  rw [wpOps_cons]
  exact hy.wpOp (r_drop hi) o fun w'' o' => h w'' (o.trans o')
theorem p_one (i : Nat) {oi : Oper} {rs : List Oper} {is : List Nat} {a : Act} (hi : l.drop i = oi :: rs) (hw : Region.wanted oi (yielded l.toArray a.tmps) = true)
    (h : ∀ w', Only None' w0 w' → Oper.wp P oi a w' (fun a' w'' => ∀ w3, Only None' w'' w3 → wpOps P l.toArray Q is a' w3) Q) : ∀ w', Only None' w0 w' → wpOps P l.toArray Q (i :: is) a w' := fun w' o => by
  rw [wpOps_cons]
  unfold wpOp
  simp only [r_drop hi, hw, if_true]
  exact .inl (Oper.wp_mono (fun a' w'' h' => h' w'' (Only.refl _ _)) (h w' o))
theorem p_done {a : Act} (h : ∀ w', Only None' w0 w' → Q .normal a w') : ∀ w', Only None' w0 w' → wpOps P l.toArray Q [] a w' := fun w' o => h w' o
end
end Go.Proofs.YteoeaojebklfjaaGreatDoor
