/- A disk that is newer than a world: steps. -/
import Derived.Test.YteoeaojebklfjaaE1
namespace Go.Proofs.Yteoeaojebklfjaa
open Go.RowKit Go.Maps
set_option linter.unusedVariables false

/-- a disk that lies in w; all of it is newer than m; nothing older than m has turned since w0 -/
structure Dsk (w0 w : World) (D : Nat) (F : Nat → Prop) (d : Dk) : Prop where
  at_ : DiskAt w D F d
  fresh : ∀ k, F k → w0.heap.size ≤ k
  only : Only None' w0 w

theorem Only.cons_new {w w' : World} {F : Nat → Prop} {w0 : World} (h : Only None' w0 w) (k : Only F w w') (hf : ∀ i, F i → w0.heap.size ≤ i) : Only None' w0 w' :=
  h.trans2 k fun i hi hF => absurd (hf i hF) (by omega)

section
variable {w0 w w' : World} {D : Nat} {F F' : Nat → Prop} {d d' : Dk}
theorem Dsk.step (h : Dsk w0 w D F d) (hd : DiskAt w' D F' d') (k : Kept F F' w w') : Dsk w0 w' D F' d' :=
  ⟨hd, fun i hi => (k.fresh i hi).elim (h.fresh i) (fun h1 => Nat.le_trans h.only.size h1), h.only.cons_new k.only h.fresh⟩
theorem Dsk.new (h : Dsk w0 w D F d) (o : Only None' w w') : Dsk w0 w' D F d := h.step (h.at_.new o) (Kept.new o)
theorem Dsk.drew (h : Dsk w0 w D F d) : Dsk w0 w.drew D F d := h.new (Only.refl _ _).drew
/-- what another thing does, elsewhere -/
theorem Dsk.other (h : Dsk w0 w D F d) {G G' : Nat → Prop} (k : Kept G G' w w') (hG : ∀ i, G i → w0.heap.size ≤ i) (hn : ∀ i, F i → ¬ G i) : Dsk w0 w' D F d :=
  ⟨h.at_.only k.only hn, h.fresh, h.only.cons_new k.only hG⟩
theorem Dsk.out (h : Dsk w0 w D F d) {k : Nat} (hk : w.heap.size ≤ k) : ¬ F k := fun hF => by have := h.at_.lt hF; omega
end

theorem full_lit (c : UInt8) (n : Int) (h : (c.toNat : Int) = n) (w : World) : Calls Try.prog 17 #[.int .u8 n] w fun r w' => ∃ g, r = .returned (.slice (some ⟨g, 0, none⟩) 512 512) ∧ w.heap.size ≤ g ∧ Vec w' 1 (.slice (some ⟨g, 0, none⟩) 512 512) 512 (bv (sec c)) ∧ Only None' w w' := by
  subst h
  exact full_any c w

theorem new_dsk (n : Nat) (k : Int) (hk : (n : Int) = k) (w0 w : World) (hw : Only None' w0 w) (h1 : 1 ≤ n) (h2 : n ≤ 65536) : Calls Try.prog 13 #[.int .i64 k] w fun r w' => ∃ D F, r = .returned (.tuple #[.pointer (some ⟨D, 0, none⟩), .int .i64 0]) ∧ Dsk w0 w' D F (Dk.new n) ∧ (∀ i, F i → w.heap.size ≤ i) ∧ Only None' w w' := by
  subst hk
  refine (new_any n w h1 h2).mono ?_
  rintro r w' ⟨D, F, rfl, h3, h4, h5⟩
  exact ⟨D, F, rfl, ⟨h3, fun k hk => Nat.le_trans hw.size (h4 k hk), hw.trans h5⟩, h4, h5⟩

section
variable {w0 w : World} {D : Nat} {F : Nat → Prop} {d : Dk}
/-- an error's number, behind a write or a flush -/
def Dk.err (d : Dk) : Int := if d.due then 20 else 0
theorem Dsk.write (h : Dsk w0 w D F d) {i : Nat} {k : Int} (hk : (i : Int) = k) {s : Sec} {vb : Value} {n : Nat} (hf : d.Few n) (hn : n ≤ 999999) (hd : d.dead = false) (hi : i < d.lasts.length) (hb : Rd w 1 vb 512 (bv s)) (hap : ∀ g, vb.ownBlock = some g → ¬ F g) (hs : s.length = 512)
    {e : Int} (he : d.err = e) {d' : Dk} (hd' : d.write i s = d') :
    Calls Try.prog 16 #[.pointer (some ⟨D, 0, none⟩), .int .i64 k, vb] w fun r w' => r = .returned (.int .i64 e) ∧ ∃ F', Dsk w0 w' D F' d' ∧ Kept F F' w w' := by
  subst hk hd' he
  refine (write_any h.at_ hd hi hb hap hs hf hn).mono ?_
  rintro r w' ⟨rfl, F', h1, h2⟩
  exact ⟨rfl, F', h.step h1 h2, h2⟩
theorem Dsk.flush (h : Dsk w0 w D F d) {n : Nat} (hf : d.Few n) (hn : n ≤ 999999) (hd : d.dead = false) {e : Int} (he : d.err = e) {d' : Dk} (hd' : d.flush = d') :
    Calls Try.prog 19 #[.pointer (some ⟨D, 0, none⟩)] w fun r w' => r = .returned (.int .i64 e) ∧ ∃ F', Dsk w0 w' D F' d' ∧ Kept F F' w w' := by
  subst hd' he
  refine (flush_any h.at_ hd hf (Nat.le_trans hn (by decide))).mono ?_
  rintro r w' ⟨rfl, F', h1, h2⟩
  exact ⟨rfl, F', h.step h1 h2, h2⟩
theorem Dsk.crash (h : Dsk w0 w D F d) {n : Nat} (hf : d.Few n) (hn : n ≤ 999999) (hd : d.dead = false) {v : Value} {keep : List Bool} (hr : Rd w 1 v keep.length (bo keep)) (hap : bo keep ≠ [] → ∀ g, v.ownBlock = some g → ¬ F g) {d' : Dk} (hd' : d.crashed keep = d') :
    Calls Try.prog 18 #[.pointer (some ⟨D, 0, none⟩), v] w fun r w' => r = .returned (.int .i64 0) ∧ ∃ F', Dsk w0 w' D F' d' ∧ Kept F F' w w' := by
  subst hd'
  refine (Crash_any h.at_ hd hr hap (Nat.le_trans hf.waits (Nat.le_trans hn (by decide)))).mono ?_
  rintro r w' ⟨rfl, F', h1, h2⟩
  exact ⟨rfl, F', h.step h1 h2, h2⟩
theorem Dsk.setFuse (h : Dsk w0 w D F d) (hd : d.dead = false) {k : Nat} {i : Int} (hi : (k : Int) = i) {v : Value} {keep : List Bool} (hr : Rd w 1 v keep.length (bo keep)) (hn : keep.length ≤ 140737488351232) {d' : Dk} (hd' : d.fused k keep = d') :
    Calls Try.prog 14 #[.pointer (some ⟨D, 0, none⟩), .int .i64 i, v] w fun r w' => r = .returned (.int .i64 0) ∧ ∃ F', Dsk w0 w' D F' d' ∧ Kept F F' w w' := by
  subst hd' hi
  refine (fuse_any h.at_ hd k hr hn).mono ?_
  rintro r w' ⟨rfl, F', h1, h2⟩
  exact ⟨rfl, F', h.step h1 h2, h2⟩
theorem Dsk.read (h : Dsk w0 w D F d) {n : Nat} (hf : d.Few n) (hn : n ≤ 999999) (hd : d.dead = false) {i : Nat} {k : Int} (hk : (i : Int) = k) (hi : i < d.lasts.length) {s : Sec} (hs : d.read i = s) :
    Calls Try.prog 22 #[.pointer (some ⟨D, 0, none⟩), .int .i64 k] w fun r w' => ∃ g off cap, r = .returned (.tuple #[.slice (some ⟨g, off, none⟩) 512 cap, .int .i64 0]) ∧ Vec w' 1 (.slice (some ⟨g, off, none⟩) 512 cap) 512 (bv s) ∧ w.heap.size ≤ g ∧ Dsk w0 w' D F d ∧ Only None' w w' := by
  subst hk hs
  refine (read_any h.at_ hd hi (Nat.le_trans hf.waits (Nat.le_trans hn (by decide)))).mono ?_
  rintro r w' ⟨v, rfl, h1, h2, h3⟩
  obtain ⟨g, off, cap, rfl, _⟩ := h1.at_ (by decide)
  exact ⟨g, off, cap, rfl, h1, h2 g rfl, h.new h3, h3⟩
theorem Dsk.reopen (h : Dsk w0 w D F d) (hd : d.dead = true) {d' : Dk} (hd' : d.reopened = d') :
    Calls Try.prog 21 #[.pointer (some ⟨D, 0, none⟩)] w fun r w' => ∃ D' F', r = .returned (.tuple #[.pointer (some ⟨D', 0, none⟩), .int .i64 0]) ∧ Dsk w0 w' D' F' d' ∧ Dsk w0 w' D F d ∧ (∀ i, F' i → w.heap.size ≤ i) ∧ Only None' w w' := by
  subst hd'
  refine (reopen_any h.at_ hd).mono ?_
  rintro r w' ⟨D', F', rfl, h1, h2, h3⟩
  exact ⟨D', F', rfl, ⟨h1, fun k hk => Nat.le_trans h.only.size (h2 k hk), h.only.trans h3⟩, h.new h3, h2, h3⟩
theorem Dsk.copy (h : Dsk w0 w D F d) {n : Nat} (hf : d.Few n) (hn : n ≤ 999999) :
    Calls Try.prog 26 #[.pointer (some ⟨D, 0, none⟩)] w fun r w' => ∃ D' F', r = .returned (.pointer (some ⟨D', 0, none⟩)) ∧ Dsk w0 w' D' F' d ∧ Dsk w0 w' D F d ∧ (∀ i, F' i → w.heap.size ≤ i) ∧ Only None' w w' := by
  refine (copy_any h.at_ (Nat.le_trans hf.waits (Nat.le_trans hn (by decide))) hf.keep).mono ?_
  rintro r w' ⟨D', F', rfl, h1, h2, h3⟩
  exact ⟨D', F', rfl, ⟨h1, fun k hk => Nat.le_trans h.only.size (h2 k hk), h.only.trans h3⟩, h.new h3, h2, h3⟩
theorem Dsk.isDead (h : Dsk w0 w D F d) {b : Bool} (hb : d.dead = b) : Calls Try.prog 15 #[.pointer (some ⟨D, 0, none⟩)] w fun r w' => r = .returned (.bool b) ∧ w = w' := by
  subst hb
  exact (dead_any h.at_).mono fun _ _ h => ⟨h.1, h.2.symm⟩
theorem Dsk.len (h : Dsk w0 w D F d) {n : Int} (hn : (d.lasts.length : Int) = n) : Calls Try.prog 24 #[.pointer (some ⟨D, 0, none⟩)] w fun r w' => r = .returned (.int .i64 n) ∧ w = w' := by
  subst hn
  exact (len_any h.at_).mono fun _ _ h => ⟨h.1, h.2.symm⟩
theorem Dsk.wait (h : Dsk w0 w D F d) {n : Int} (hn : (d.waits.length : Int) = n) : Calls Try.prog 20 #[.pointer (some ⟨D, 0, none⟩)] w fun r w' => r = .returned (.int .i64 n) ∧ w = w' := by
  subst hn
  exact (waits_any h.at_).mono fun _ _ h => ⟨h.1, h.2.symm⟩
theorem Dsk.done (h : Dsk w0 w D F d) {n : Int} (hn : d.done = n) : Calls Try.prog 23 #[.pointer (some ⟨D, 0, none⟩)] w fun r w' => r = .returned (.int .i64 n) ∧ w = w' := by
  subst hn
  exact (done_any h.at_).mono fun _ _ h => ⟨h.1, h.2.symm⟩
end

/-! ### numbers -/
theorem Dk.Few.new {n m : Nat} : (Dk.new n).Few m := ⟨by simp [Dk.new], by simp [Dk.new], by simp [Dk.new], by simp [Dk.new], by simp [Dk.new], by simp [Dk.new]⟩
theorem Dk.Few.tick {d : Dk} {n : Nat} (h : d.Few n) : d.tick.Few (n + 1) := by
  obtain ⟨a, b, c, e, f, g⟩ := h
  exact ⟨by show d.waits.length ≤ _; omega, by show 0 ≤ d.done + 1; omega, by show d.done + 1 ≤ _; omega, by show _ ≤ d.left - 1; omega, by show d.left - 1 ≤ _; omega, g⟩
theorem Dk.Few.wrote {d : Dk} {n : Nat} (h : d.Few n) (i : Nat) (s : Sec) : (d.wrote i s).Few (n + 1) := by
  obtain ⟨a, b, c, e, f, g⟩ := h
  exact ⟨by show (d.waits ++ [(i, s)]).length ≤ _; simp; omega, b, by show d.done ≤ _; omega, by show _ ≤ d.left; omega, f, g⟩
theorem Dk.Few.wroteTick {d : Dk} {n : Nat} (h : d.Few n) (i : Nat) (s : Sec) : (d.wrote i s).tick.Few (n + 1) := by
  obtain ⟨a, b, c, e, f, g⟩ := h
  exact ⟨by show (d.waits ++ [(i, s)]).length ≤ _; simp; omega, by show 0 ≤ d.done + 1; omega, by show d.done + 1 ≤ _; omega, by show _ ≤ d.left - 1; omega, by show d.left - 1 ≤ _; omega, g⟩
theorem Dk.Few.settled {d : Dk} {n : Nat} (h : d.Few n) (k : Nat → Bool) : (d.settled k).Few n := ⟨Nat.zero_le _, h.done0, h.done, h.left0, h.left, h.keep⟩
theorem Dk.Few.crashed {d : Dk} {n : Nat} (h : d.Few n) (k : List Bool) : (d.crashed k).Few n := ⟨Nat.zero_le _, h.done0, h.done, h.left0, h.left, h.keep⟩
theorem Dk.Few.mono {d : Dk} {n m : Nat} (h : d.Few n) (hm : n ≤ m) : d.Few m := by
  obtain ⟨a, b, c, e, f, g⟩ := h
  exact ⟨by omega, b, by omega, by omega, f, g⟩
theorem Dk.Few.write {d : Dk} {n : Nat} (h : d.Few n) (i : Nat) (s : Sec) : (d.write i s).Few (n + 1) := by
  unfold Dk.write
  split
  · exact (h.wrote i s).crashed _
  · exact h.wroteTick i s
theorem Dk.Few.flush {d : Dk} {n : Nat} (h : d.Few n) : d.flush.Few (n + 1) := by
  unfold Dk.flush
  split
  · exact (h.crashed _).mono (by omega)
  · exact h.tick.settled _
theorem Dk.Few.reopened {d : Dk} {n : Nat} : d.reopened.Few n := ⟨Nat.zero_le _, Int.le_refl 0, by show (0 : Int) ≤ _; omega, by show _ ≤ (0 : Int); omega, by show (0 : Int) ≤ _; omega, Nat.zero_le _⟩
theorem sec_length (c : UInt8) : (sec c).length = 512 := List.length_replicate
theorem sec_cell {w : World} {g off cap : Nat} {c : UInt8} (h : Vec w 1 (.slice (some ⟨g, off, none⟩) 512 cap) 512 (bv (sec c))) {j : Nat} (hj : j < 512) : w.cell? ⟨g, off + j, none⟩ = some (.int .u8 (c.toNat : Int)) := by
  refine h.range j _ ?_
  rw [sec, bv_replicate, List.getElem?_replicate, if_pos hj]
end Go.Proofs.Yteoeaojebklfjaa
