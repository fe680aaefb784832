/- RingPlays: the steps that came in. -/
import Derived.Test.YteoeaojebklfjaaJ3
import Derived.Test.YteoeaojebklfjaaND
import Derived.Test.YteoeaojebklfjaaLB
namespace Go.Proofs.Yteoeaojebklfjaa
open Go.RowKit Go.Maps Go.WideShapes
set_option linter.unusedVariables false

structure Rst where
  kind : UInt8
  len : Int
  what : UInt8
  n : Int

structure At4 (w : World) (b o : Nat) (s : Rst) : Prop where
  k0 : w.cell? ⟨b, o, none⟩ = some (.int .u8 (s.kind.toNat : Int))
  k1 : w.cell? ⟨b, o + 1, none⟩ = some (.int .i64 s.len)
  k2 : w.cell? ⟨b, o + 2, none⟩ = some (.int .u8 (s.what.toNat : Int))
  k3 : w.cell? ⟨b, o + 3, none⟩ = some (.int .i64 s.n)

structure Rsts (w : World) (a : Option Addr) (n : Nat) (ss : List Rst) : Prop where
  len : ss.length = n
  small : n ≤ 140737488351232
  at_ : ∀ j (hj : j < ss.length), ∃ b off, a = some ⟨b, off, none⟩ ∧ b < w.heap.size ∧ At4 w b (off + j * 4) ss[j]

noncomputable def fs78 : Array Field := match Try.prog.underlying 78 with
  | some (.struct fs) => fs
  | _ => #[]
theorem under78 : Try.prog.underlying 78 = some (.struct fs78) := by kernel_rfl
theorem hone78 : Go.Deep.oneCellFields Try.prog fs78 = true := by kernel_rfl
theorem cells78 : Try.prog.cellsOf 78 = fs78.size := by kernel_rfl
theorem size78 : fs78.size = 4 := by kernel_rfl
theorem bytes78 : Try.prog.bytesOf 78 = 32 := by kernel_rfl
theorem under71 : Try.prog.underlying 71 = some (.slice 78) := by kernel_rfl
theorem f78 : (fs78.toList.map (·.type)) = [5, 3, 5, 3] := by kernel_rfl
theorem f78at (i : Nat) (t : TypeId) (h : (fs78.toList.map (·.type))[i]? = some t) : ∃ f, fs78[i]? = some f ∧ f.type = t := by
  rw [List.getElem?_map, Array.getElem?_toList] at h
  cases hf : fs78[i]? with
  | none => rw [hf] at h; cases h
  | some f => rw [hf] at h; injection h with h; exact ⟨f, rfl, h⟩

set_option maxRecDepth 20000 in
theorem open_rsts {H : Type} {enc : TypeId × Value → H} {W : World} {base : Nat} {v : Value} {d : DataW H} {ps : List MemPlace}
    (hok : Value.okWide Try.prog W .any base 71 v) (hd : DataW.Trod enc Try.prog W 0 (fun _ => true) true 71 v d ps) (hw : ∀ n ∈ d.weights Try.prog 71, n ≤ reachBytes) :
    ∃ a len cap ss, v = .slice a len cap ∧ Rsts W a len ss := by
  obtain ⟨a, len, cap, rfl, hle, _, hb, hc, hm, hat⟩ := open_flat under71 under78 hone78 cells78 hok hd hw
  rw [bytes78, reach_eq] at hle
  have key : ∀ j, j < len → ∃ s : Rst, ∃ b off, a = some ⟨b, off, none⟩ ∧ b < W.heap.size ∧ At4 W b (off + j * 4) s := by
    intro j hj
    obtain ⟨b, off, rfl, hf⟩ := hat j hj
    rw [size78] at hf
    obtain ⟨g0, e0, t0⟩ := f78at 0 5 (by rw [f78]; rfl)
    obtain ⟨g1, e1, t1⟩ := f78at 1 3 (by rw [f78]; rfl)
    obtain ⟨g2, e2, t2⟩ := f78at 2 5 (by rw [f78]; rfl)
    obtain ⟨g3, e3, t3⟩ := f78at 3 3 (by rw [f78]; rfl)
    obtain ⟨u0, c0, s0⟩ := hf 0 g0 e0
    obtain ⟨u1, c1, s1⟩ := hf 1 g1 e1
    obtain ⟨u2, c2, s2⟩ := hf 2 g2 e2
    obtain ⟨u3, c3, s3⟩ := hf 3 g3 e3
    rw [t0] at s0; rw [t1] at s1; rw [t2] at s2; rw [t3] at s3
    obtain ⟨n0, rfl, l0⟩ := s0.int _ Try.underlying5
    obtain ⟨n1, rfl, _⟩ := s1.int _ Try.underlying3
    obtain ⟨n2, rfl, l2⟩ := s2.int _ Try.underlying5
    obtain ⟨n3, rfl, _⟩ := s3.int _ Try.underlying3
    obtain ⟨x, hx⟩ := byte_of (wf8 l0)
    obtain ⟨c, hc⟩ := byte_of (wf8 l2)
    refine ⟨⟨x, n1, c, n3⟩, b, off, rfl, (hb _ rfl).2, ⟨?_, c1, ?_, c3⟩⟩
    · show _ = some (Value.int .u8 (x.toNat : Int))
      rw [hx]; exact c0
    · show _ = some (Value.int .u8 (c.toNat : Int))
      rw [hc]; exact c2
  obtain ⟨ss, hl, hp⟩ := list_of _ len key
  exact ⟨a, len, cap, ss, rfl, ⟨hl, by omega, fun j hj => hp j hj⟩⟩

/-! ### what the steps reckon -/
theorem nmod (x : Int) (k : Nat) (hk : 0 < k) (hk' : k ≤ 100000) : ∃ m : Nat, wrap64 ((IntKind.u64.wrap x).tmod (k : Int)) = (m : Int) ∧ m < k := by
  have h0 := u64_nonneg x
  have e : (IntKind.u64.wrap x).tmod (k : Int) = (IntKind.u64.wrap x) % (k : Int) := Int.tmod_eq_emod_of_nonneg h0
  have h1 := Int.emod_nonneg (IntKind.u64.wrap x) (show (k : Int) ≠ 0 by omega)
  have h2 := Int.emod_lt_of_pos (IntKind.u64.wrap x) (show (0 : Int) < (k : Int) by omega)
  refine ⟨((IntKind.u64.wrap x) % (k : Int)).toNat, ?_, by omega⟩
  rw [e, IntWalk.wrap64_in _ (by omega)]
  omega
end Go.Proofs.Yteoeaojebklfjaa
namespace Go.Proofs.Yteoeaojebklfjaa
open Go.RowKit Go.Maps
set_option linter.unusedVariables false

/-- the law's state: a ring on a disk, and the document's ring -/
structure Rp (w0 w : World) (first count R X D : Nat) (F Z : Nat → Prop) (r : Rg) (d : Dk) (rx : Rg) (g : Nat → Sec) (a : Option Addr) (c n : Nat) : Prop where
  rk : Rk w0 w R D F r d 12 n
  x : XAt w X (.slice a count c) rx
  s : Recs w (fun j => w0.heap.size ≤ j ∧ j ≠ X ∧ j ≠ R ∧ ¬ F j ∧ ¬ Z j) (.slice a count c) (secs count g)
  xn : w0.heap.size ≤ X
  xr : X ≠ R
  xf : ¬ F X
  zx : ¬ Z X
  zr : ¬ Z R
  zf : ∀ k, F k → ¬ Z k
  zn : ∀ k, Z k → w0.heap.size ≤ k
  rf : r.first = first
  rc : r.count = count
  xc : rx.count = count
  xo : rx.Ok
  sz : ∀ i, i < count → (g i).length = 512

theorem Dk.read_size {d : Dk} (ok : d.Ok) {i : Nat} (hi : i < d.lasts.length) : (d.read i).length = 512 := Dk.read_length ok hi
section
variable {w0 w w' : World} {first count R X D : Nat} {F Z : Nat → Prop} {r rx : Rg} {d : Dk} {g : Nat → Sec} {a : Option Addr} {c n : Nat}
theorem Rp.only (h : Rp w0 w first count R X D F Z r d rx g a c n) (o : Only None' w w') : Rp w0 w' first count R X D F Z r d rx g a c n :=
  ⟨h.rk.only o, h.x.kept o fun e => e, h.s.only o fun _ _ e => e, h.xn, h.xr, h.xf, h.zx, h.zr, h.zf, h.zn, h.rf, h.rc, h.xc, h.xo, h.sz⟩
theorem Rp.few {m : Nat} (h : Rp w0 w first count R X D F Z r d rx g a c n) (hm : n ≤ m) : Rp w0 w first count R X D F Z r d rx g a c m :=
  ⟨h.rk.few hm, h.x, h.s, h.xn, h.xr, h.xf, h.zx, h.zr, h.zf, h.zn, h.rf, h.rc, h.xc, h.xo, h.sz⟩
theorem Rp.aside (h : Rp w0 w first count R X D F Z r d rx g a c n) (o : Only Z w w') : Rp w0 w' first count R X D F Z r d rx g a c n :=
  ⟨h.rk.aside o fun k hk => ⟨h.zn k hk, fun e => h.zr (e ▸ hk), fun e => h.zf k e hk⟩, h.x.kept o h.zx, h.s.only o fun k hk e => hk.2.2.2.2 e, h.xn, h.xr, h.xf, h.zx, h.zr, h.zf, h.zn, h.rf, h.rc, h.xc, h.xo, h.sz⟩
theorem Rp.avoid (h : Rp w0 w first count R X D F Z r d rx g a c n) {Z' : Nat → Prop} (hz : ∀ k, Z' k → w.heap.size ≤ k) : Rp w0 w first count R X D F Z' r d rx g a c n := by
  have lx := h.x.lt
  have lr := h.rk.ring.lt
  exact ⟨h.rk, h.x, h.s.mono fun k hk p => ⟨p.1, p.2.1, p.2.2.1, p.2.2.2.1, fun e => by have := hz k e; omega⟩, h.xn, h.xr, h.xf, fun e => by have := hz _ e; omega, fun e => by have := hz _ e; omega, fun k hF e => by have := hz k e; have := h.rk.dsk.at_.lt hF; omega, fun k e => Nat.le_trans h.rk.dsk.only.size (hz k e), h.rf, h.rc, h.xc, h.xo, h.sz⟩
theorem Rp.free (h : Rp w0 w first count R X D F Z r d rx g a c n) : Rp w0 w first count R X D F None' r d rx g a c n := h.avoid fun k e => e.elim
theorem Rp.c12 (h : Rp w0 w first count R X D F Z r d rx g a c n) : first + count ≤ 12 ∧ 1 ≤ count := by
  have h1 := h.rk.fit
  have h2 := h.rk.ok.count
  have h3 := h.rf
  have h4 := h.rc
  omega
/-- the sectors behind what turns the disk, or the ring -/
theorem Rp.far (h : Rp w0 w first count R X D F Z r d rx g a c n) (hZ : ∀ k, Z k → k < w.heap.size) {F' : Nat → Prop} (hk : Kept (fun k => F k ∨ k = R) (fun k => F' k ∨ k = R) w w') :
    XAt w' X (.slice a count c) rx ∧ Recs w' (fun j => w0.heap.size ≤ j ∧ j ≠ X ∧ j ≠ R ∧ ¬ F' j ∧ ¬ Z j) (.slice a count c) (secs count g) ∧ ¬ F' X ∧ ∀ k, F' k → ¬ Z k := by
  have key : ∀ k, k < w.heap.size → k ≠ R → ¬ F k → ¬ F' k := fun k hk' hR hF e => by
    rcases hk.fresh k (Or.inl e) with (h | h) | h
    · exact hF h
    · exact hR h
    · omega
  refine ⟨h.x.kept hk.only fun e => e.elim h.xf h.xr, ?_, key X h.x.lt h.xr h.xf, fun k hF' hz => key k (hZ k hz) (fun e => h.zr (e ▸ hz)) (fun e => h.zf k e hz) hF'⟩
  have h1 : Recs w (fun j => (w0.heap.size ≤ j ∧ j ≠ X ∧ j ≠ R ∧ ¬ F' j ∧ ¬ Z j) ∧ ¬ F j) (.slice a count c) (secs count g) := h.s.mono fun k hk' p => ⟨⟨p.1, p.2.1, p.2.2.1, key k hk' p.2.2.1 p.2.2.2.1, p.2.2.2.2⟩, p.2.2.2.1⟩
  exact (h1.only hk.only fun k p e => e.elim p.2 p.1.2.2.1).mono fun k _ p => p.1
theorem Rp.append (h : Rp w0 w first count R X D F Z r d rx g a c n) (hn : n ≤ 800000) (hZ : ∀ k, Z k → k < w.heap.size) {b off cp m : Nat} {rec : Rec} (hm : rec.length = m) (hr : Rd w 1 (.slice (some ⟨b, off, none⟩) m cp) rec.length (bv rec)) (hc : m ≤ cp) (hcm : cp ≤ maxLen) (hbz : Z b) (hb : m ≤ 140737488355328) :
    Calls Try.prog 40 #[.pointer (some ⟨R, 0, none⟩), .slice (some ⟨b, off, none⟩) m cp] w fun e w' => ∃ code r' d' F', e = .returned (.int .i64 code) ∧ Rp w0 w' first count R X D F' Z r' d' rx g a c (n + 12) ∧ Kept (fun k => F k ∨ k = R) (fun k => F' k ∨ k = R) w w' ∧
      ((refuse r (cutN m) = some code ∧ r' = r ∧ d' = d) ∨ (refuse r (cutN m) = none ∧ code = 0 ∧ r' = { r with last := r.last + cutN m, top := r.last + cutN m } ∧ gAt first d' = layG count (cutR r.last rec) (gAt first d))) := by
  refine (h.rk.appends hn hm hr hc hcm (fun e => h.zf b e hbz) (hZ b hbz) (fun e => h.zr (e ▸ hbz)) hb).mono ?_
  rintro e w' ⟨code, r', d', F', rfl, hk, kp, hd⟩
  obtain ⟨x1, x2, x3, x4⟩ := h.far hZ kp
  have hrr : r'.first = r.first ∧ r'.count = r.count := by
    rcases hd with ⟨_, e, _⟩ | ⟨_, _, e, _⟩ <;> rw [e] <;> exact ⟨rfl, rfl⟩
  have h12 := h.c12
  have hrc := h.rc
  refine ⟨code, r', d', F', rfl, ⟨hk.few (by omega), x1, x2, h.xn, h.xr, x3, h.zx, h.zr, x4, h.zn, by rw [hrr.1, h.rf], by rw [hrr.2, h.rc], h.xc, h.xo, h.sz⟩, kp, ?_⟩
  rcases hd with hd | ⟨h1, h2, h3, h4⟩
  · exact Or.inl hd
  · refine Or.inr ⟨h1, h2, h3, ?_⟩
    have e : gOf r d' = gAt first d' := by rw [gOf_gAt, h.rf]
    have e2 : gOf r d = gAt first d := by rw [gOf_gAt, h.rf]
    rw [e, e2, h.rc] at h4
    exact h4
theorem Rp.xappend (h : Rp w0 w first count R X D F None' r d rx g a c n) {b off cp m : Nat} {rec : Rec} (hm : rec.length = m) (hr : Rd w 1 (.slice (some ⟨b, off, none⟩) m cp) rec.length (bv rec)) (hc : m ≤ cp) (hcm : cp ≤ maxLen) (hba : (Value.slice a count c).ownBlock ≠ some b) (hbX : b ≠ X) (hb : m ≤ 140737488355328) :
    Calls Try.prog 51 #[.pointer (some ⟨X, 0, none⟩), .slice (some ⟨b, off, none⟩) m cp] w fun e w' => ∃ code rx' g', e = .returned (.int .i64 code) ∧ Rp w0 w' first count R X D F None' r d rx' g' a c n ∧
      ((refuse rx (cutN m) = some code ∧ rx' = rx ∧ g' = g) ∨ (refuse rx (cutN m) = none ∧ code = 0 ∧ rx' = { rx with last := rx.last + cutN m, top := rx.last + cutN m } ∧ g' = layG count (cutR rx.last rec) g)) := by
  have lx := h.x.lt
  have lr := h.rk.ring.lt
  have hrc := h.xc
  subst hrc
  refine (docappend_any h.x h.xo h.s (fun p => p.2.1 rfl) (fun k hk => ⟨Nat.le_trans h.rk.dsk.only.size hk, by omega, by omega, fun e => by have := h.rk.dsk.at_.lt e; omega, fun e => e⟩) hm hr hc hcm hba hbX hb).mono ?_
  rintro e w' ⟨code, rx', g', rfl, hx, hs, ho, hd⟩
  have hrr : rx'.count = rx.count := by
    rcases hd with ⟨_, e, _⟩ | ⟨_, _, e, _⟩ <;> rw [e]
  have hok : rx'.Ok := by
    rcases hd with ⟨_, e, _⟩ | ⟨e1, _, e, _⟩ <;> rw [e]
    · exact h.xo
    · exact grown_ok h.xo e1
  have hsz : ∀ i, i < rx.count → (g' i).length = 512 := by
    rcases hd with ⟨_, _, e⟩ | ⟨e1, _, _, e⟩ <;> rw [e]
    · exact h.sz
    · exact layG_size (fun p hp => cutR_size hm e1 h.xo p hp) h.sz
  refine ⟨code, rx', g', rfl, ⟨h.rk.aside ho fun k hk => ?_, hx, hs, h.xn, h.xr, h.xf, fun e => e, fun e => e, fun _ _ e => e, fun _ e => e.elim, h.rf, h.rc, hrr, hok, hsz⟩, hd⟩
  rcases hk with e | e
  · rw [e]; exact ⟨h.xn, h.xr, h.xf⟩
  · have := h.s.own k e
    exact ⟨this.1, this.2.2.1, this.2.2.2.1⟩
theorem Rp.sync (h : Rp w0 w first count R X D F None' r d rx g a c n) (hn : n ≤ 900000) : Calls Try.prog 44 #[.pointer (some ⟨R, 0, none⟩)] w fun e w' => e = .returned (.int .i64 0) ∧ ∃ F' d', Rp w0 w' first count R X D F' None' r d' rx g a c (n + 12) ∧ d'.waits.length = 0 ∧ gAt first d' = gAt first d := by
  obtain ⟨e1, e2, e3⟩ := h.rk.calm.flush
  refine (sync_any h.rk.ring h.rk.dsk.at_ h.rk.calm.dead h.rk.calm.few (by omega)).mono ?_
  rintro e w' ⟨rfl, F', hd, hk⟩
  have hk2 := hk.more R
  obtain ⟨x1, x2, x3, x4⟩ := h.far (fun _ e => e.elim) hk2
  refine ⟨by rw [h.rk.calm.err], F', d.flush, ⟨⟨h.rk.ring.kept hk.only h.rk.apart, h.rk.dsk.step hd hk, ⟨e2.dead, e2.set, e2.len, e2.few.mono (by omega)⟩, h.rk.ok, h.rk.new, fun e => ?_, h.rk.fit⟩, x1, x2, h.xn, h.xr, x3, h.zx, h.zr, x4, h.zn, h.rf, h.rc, h.xc, h.xo, h.sz⟩, e3, ?_⟩
  · rcases hk.fresh R e with h1 | h1
    · exact h.rk.apart h1
    · have := h.rk.ring.lt; omega
  · funext i
    show d.flush.read (first + i) = d.read (first + i)
    rw [e1]
    exact Dk.read_flushed (d := d.tick) ⟨h.rk.dsk.at_.ok.lasts, h.rk.dsk.at_.ok.waits, h.rk.dsk.at_.ok.many⟩ _
theorem Rp.empty (h : Rp w0 w first count R X D F None' r d rx g a c n) : Calls Try.prog 45 #[.pointer (some ⟨R, 0, none⟩)] w fun e w' => e = .returned (.int .i64 (r.top : Int)) ∧ Rp w0 w' first count R X D F None' r.emptied d rx g a c n := by
  refine (empty_any h.rk.ring).mono ?_
  rintro e w' ⟨rfl, hr, ho⟩
  have ok := h.rk.ok
  have hk : Kept (fun k => F k ∨ k = R) (fun k => F k ∨ k = R) w w' := Kept.only' (ho.mono fun k _ e => Or.inr e)
  obtain ⟨x1, x2, x3, x4⟩ := h.far (fun _ e => e.elim) hk
  refine ⟨rfl, ⟨⟨hr, ⟨h.rk.dsk.at_.only ho fun k hF e => h.rk.apart (e ▸ hF), h.rk.dsk.fresh, h.rk.dsk.only.cons_new ho fun k e => by rw [e]; exact h.rk.new⟩, h.rk.calm, ?_, h.rk.new, h.rk.apart, h.rk.fit⟩, x1, x2, h.xn, h.xr, x3, h.zx, h.zr, x4, h.zn, h.rf, h.rc, h.xc, h.xo, h.sz⟩⟩
  exact ⟨ok.count, ok.small, Nat.le_refl _, Nat.le_refl _, by show r.top ≤ r.top + r.count; omega, ok.top⟩
theorem Rp.xempty (h : Rp w0 w first count R X D F None' r d rx g a c n) : Calls Try.prog 52 #[.pointer (some ⟨X, 0, none⟩)] w fun e w' => e = .returned (.int .i64 (rx.top : Int)) ∧ Rp w0 w' first count R X D F None' r d rx.emptied g a c n := by
  refine (docempty_any h.x).mono ?_
  rintro e w' ⟨rfl, hx, ho⟩
  have ok := h.xo
  refine ⟨rfl, ⟨h.rk.aside ho fun k e => by rw [e]; exact ⟨h.xn, h.xr, h.xf⟩, hx, h.s.only ho fun k hk e => hk.2.1 e, h.xn, h.xr, h.xf, h.zx, h.zr, h.zf, h.zn, h.rf, h.rc, h.xc, ?_, h.sz⟩⟩
  exact ⟨ok.count, ok.small, Nat.le_refl _, Nat.le_refl _, by show rx.top ≤ rx.top + rx.count; omega, ok.top⟩
/-- the blocks of records told by an opening -/
def Told (w w' : World) (R : Nat) : Nat → Prop := fun k => w.heap.size ≤ k ∧ k < w'.heap.size ∧ k ≠ R
theorem Rp.reopen (h : Rp w0 w first count R X D F None' r d rx g a c n) (hn : n ≤ 900000) {base : Nat} (hb : base ≤ 4611686018427387904) : Calls Try.prog 38 #[.pointer (some ⟨D, 0, none⟩), .int .i64 (first : Int), .int .i64 (count : Int), .int .i64 (base : Int)] w fun e w' => ∃ R' va m vc, e = .returned (.tuple #[.pointer (some ⟨R', 0, none⟩), .slice va m vc, .int .i64 0]) ∧ (runG count (gAt first d) count base [] [] base).1.length = m ∧
      Rp w0 w' first count R' X D F (Told w w' R') (Rg.opened first count base (gAt first d)) d rx g a c n ∧ Recs w' (Told w w' R') (.slice va m vc) (runG count (gAt first d) count base [] [] base).1 := by
  have h12 := h.c12
  refine (rk_open h.rk.dsk h.rk.calm hn h12.2 h12.1 hb rfl rfl rfl rfl rfl rfl).mono ?_
  rintro e w' ⟨R', va, vc, rfl, hR, hk, hrec, ho⟩
  have hs : Recs w (fun j => (w0.heap.size ≤ j ∧ j ≠ X ∧ ¬ F j) ∧ j < w.heap.size) (.slice a count c) (secs count g) := h.s.mono fun k hk' p => ⟨⟨p.1, p.2.1, p.2.2.2.1⟩, hk'⟩
  have lx := h.x.lt
  refine ⟨R', va, _, vc, rfl, rfl, ⟨hk, h.x.kept ho fun e => e, (hs.only ho fun _ _ e => e).mono fun k _ p => ⟨p.1.1, p.1.2.1, by omega, p.1.2.2, fun z => by have := z.1; omega⟩, h.xn, by omega, h.xf, fun z => by have := z.1; omega, fun z => z.2.2 rfl, fun k hF z => by have := z.1; have := h.rk.dsk.at_.lt hF; omega, fun k z => Nat.le_trans h.rk.dsk.only.size z.1, rfl, rfl, h.xc, h.xo, h.sz⟩, ?_⟩
  exact hrec.mono fun k hk' p => ⟨p.1, hk', p.2⟩
theorem Rp.xreopen (h : Rp w0 w first count R X D F Z r d rx g a c n) (hZ : ∀ k, Z k → k < w.heap.size) {base : Nat} (hb : base ≤ 4611686018427387904) : Calls Try.prog 49 #[.slice a count c, .int .i64 (base : Int)] w fun e w' => ∃ X' a' c' va m vc, e = .returned (.tuple #[.pointer (some ⟨X', 0, none⟩), .slice va m vc]) ∧ (runG count g count base [] [] base).1.length = m ∧
      Rp w0 w' first count R X' D F Z r d (Rg.opened first count base g) g a' c' n ∧ Recs w' (fun k => w.heap.size ≤ k ∧ k ≠ X') (.slice va m vc) (runG count g count base [] [] base).1 ∧ Only None' w w' := by
  have h12 := h.c12
  have lr := h.rk.ring.lt
  refine (docopen_any first h.s h.sz h12.2 (by omega) hb).mono ?_
  rintro e w' ⟨X', a', c', vo, rfl, hX, hx, hs, hrec, ho⟩
  obtain ⟨va, vc, rfl⟩ := hrec.shape
  have h2 := h.only ho
  refine ⟨X', a', c', va, _, vc, rfl, rfl, ⟨h2.rk, hx, hs.mono fun k _ p => ⟨Nat.le_trans h.rk.dsk.only.size p.1, p.2, by omega, fun hF => by have := h.rk.dsk.at_.lt hF; omega, fun z => by have := hZ k z; omega⟩, Nat.le_trans h.rk.dsk.only.size hX, by omega, fun hF => by have := h.rk.dsk.at_.lt hF; omega, fun z => by have := hZ _ z; omega, h.zr, h.zf, h.zn, h.rf, h.rc, rfl, Rg.opened_ok h12.2 (by omega) hb, h.sz⟩, hrec, ho⟩
theorem Rp.write (h : Rp w0 w first count R X D F Z r d rx g a c n) (hn : n ≤ 900000) (hZ : ∀ k, Z k → k < w.heap.size) {i : Nat} (hi : i < count) {k : Int} (hk : ((first + i : Nat) : Int) = k) {s : Sec} {vb : Value} (hb : Rd w 1 vb 512 (bv s)) (hap : ∀ j, vb.ownBlock = some j → Z j) (hs : s.length = 512) :
    Calls Try.prog 16 #[.pointer (some ⟨D, 0, none⟩), .int .i64 k, vb] w fun e w' => e = .returned (.int .i64 0) ∧ ∃ F' d', Rp w0 w' first count R X D F' Z r d' rx g a c (n + 12) ∧ gAt first d' = setG (gAt first d) i s ∧ Kept F F' w w' := by
  have h12 := h.c12
  obtain ⟨e1, e2⟩ := h.rk.calm.write (first + i) s
  refine (h.rk.dsk.write hk h.rk.calm.few (by omega) h.rk.calm.dead (by rw [h.rk.calm.len]; omega) hb (fun j hj e => h.zf j e (hap j hj)) hs h.rk.calm.err rfl).mono ?_
  rintro e w' ⟨rfl, F', hd, kp⟩
  obtain ⟨x1, x2, x3, x4⟩ := h.far hZ (kp.more R)
  refine ⟨rfl, F', _, ⟨⟨h.rk.ring.kept kp.only h.rk.apart, hd, ⟨e2.dead, e2.set, e2.len, e2.few.mono (by omega)⟩, h.rk.ok, h.rk.new, fun e => ?_, h.rk.fit⟩, x1, x2, h.xn, h.xr, x3, h.zx, h.zr, x4, h.zn, h.rf, h.rc, h.xc, h.xo, h.sz⟩, ?_, kp⟩
  · rcases kp.fresh R e with h1 | h1
    · exact h.rk.apart h1
    · have := h.rk.ring.lt; omega
  · funext j
    rw [e1]
    show (d.wrote (first + i) s).read (first + j) = _
    rw [Dk.read_wrote]
    unfold setG gAt
    by_cases e : j = i
    · rw [if_pos (by omega), if_pos e]
    · rw [if_neg (by omega), if_neg e]
theorem Rp.xset {ga off : Nat} (h : Rp w0 w first count R X D F Z r d rx g (some ⟨ga, off, none⟩) c n) {i : Nat} (hi : i < count) {x : Value} {s : Sec} (hs : s.length = 512) (hx : Vec w 1 x 512 (bv s)) (hp : ∀ k, x.ownBlock = some k → Z k) :
    Rp w0 (w.setCell ⟨ga, off + i, none⟩ x) first count R X D F None' r d rx (setG g i s) (some ⟨ga, off, none⟩) c n := by
  have hg := h.s.own ga rfl
  have o : Only (fun k => k = ga) w (w.setCell ⟨ga, off + i, none⟩ x) := (Only.refl (fun k => k = ga) w).setCell (p := ⟨ga, off + i, none⟩) rfl _
  refine ⟨h.rk.aside o fun k e => by rw [e]; exact ⟨hg.1, hg.2.2.1, hg.2.2.2.1⟩, h.x.kept o fun e => hg.2.1 e.symm, ?_, h.xn, h.xr, h.xf, fun e => e, fun e => e, fun _ _ e => e, fun _ e => e.elim, h.rf, h.rc, h.xc, h.xo, fun j hj => ?_⟩
  · have h1 : Recs w (fun j => w0.heap.size ≤ j ∧ j ≠ X ∧ j ≠ R ∧ ¬ F j ∧ ¬ None' j) (.slice (some ⟨ga, off, none⟩) count c) (secs count g) := h.s.mono fun k _ p => ⟨p.1, p.2.1, p.2.2.1, p.2.2.2.1, fun e => e⟩
    rw [← secs_set]
    have hl := secs_length count g
    have h2 := Recs.put (rs := secs count g) (i := i) (x := x) (s := s) (c := c) (g := ga) (off := off) (P := fun j => w0.heap.size ≤ j ∧ j ≠ X ∧ j ≠ R ∧ ¬ F j ∧ ¬ None' j) (w := w) (by rw [hl]; exact h1) (by rw [hl]; exact hi) (by rw [hs]; exact hx) (fun k hk => ⟨⟨h.zn k (hp k hk), fun e => h.zx (e ▸ hp k hk), fun e => h.zr (e ▸ hp k hk), fun e => h.zf k e (hp k hk), fun e => e⟩, fun e => hg.2.2.2.2 (e ▸ hp k hk)⟩)
    rw [hl] at h2
    exact h2
  · unfold setG
    by_cases e : j = i
    · rw [if_pos e]; exact hs
    · rw [if_neg e]; exact h.sz j hj
theorem Rp.tells (h : Rp w0 w first count R X D F None' r d r g a c n) : Calls Try.prog 54 #[.pointer (some ⟨R, 0, none⟩), .pointer (some ⟨X, 0, none⟩)] w fun e w' => e = .returned (.bool true) ∧ ∃ q, w' = w.drewN q := by
  have h1 := h.x
  have h2 := h.xc
  subst h2
  exact told_any h.rk.ring h1 h.xo
theorem Rp.secs_ (h : Rp w0 w first count R X D F None' r d rx g a c n) (hn : n ≤ 900000) : Calls Try.prog 48 #[.pointer (some ⟨D, 0, none⟩), .int .i64 (first : Int), .int .i64 (count : Int)] w fun e w' => ∃ va vc, e = .returned (.tuple #[.slice va count vc, .bool true]) ∧ Recs w' (fun k => w.heap.size ≤ k) (.slice va count vc) (secs count (gAt first d)) ∧ Only None' w w' := by
  have h12 := h.c12
  refine (sectors_any h.rk.dsk.at_ h.rk.calm.dead (Nat.le_trans h.rk.calm.few.waits (by omega)) (by rw [h.rk.calm.len]; exact h12.1)).mono ?_
  rintro e w' ⟨v, rfl, hr, ho⟩
  obtain ⟨va, vc, rfl⟩ := hr.shape
  rw [show ((List.range count).map (gAt first d)).length = count by simp] at *
  exact ⟨va, vc, rfl, hr, ho⟩
end
end Go.Proofs.Yteoeaojebklfjaa
namespace Go.Proofs.Yteoeaojebklfjaa
open Go.RowKit Go.Maps
set_option linter.unusedVariables false

theorem Rp.start {w0 w2 w3 w4 : World} {first count base R X D : Nat} {F : Nat → Prop} {r : Rg} {d : Dk} {a : Option Addr} {c n : Nat} (hk : Rk w0 w2 R D F r d 12 n) (hr : Rg.opened first count base (gAt first d) = r) (o : Only None' w2 w3) (hX : w3.heap.size ≤ X) (hx : XAt w4 X (.slice a count c) (Rg.opened first count base (gAt first d))) (hs : Recs w4 (fun k => w3.heap.size ≤ k ∧ k ≠ X) (.slice a count c) (secs count (gAt first d))) (o4 : Only None' w3 w4) :
    Rp w0 w4 first count R X D F None' r d r (gAt first d) a c n := by
  have h1 := hk.ring.lt
  have h2 := o.size
  have h3 := hk.dsk.only.size
  subst hr
  refine ⟨(hk.only o).only o4, hx, hs.mono fun k _ p => ⟨by omega, p.2, by omega, fun hF => by have := hk.dsk.at_.lt hF; omega, fun e => e⟩, by omega, by omega, fun hF => by have := hk.dsk.at_.lt hF; omega, fun e => e, fun e => e, fun _ _ e => e, fun _ e => e.elim, rfl, rfl, rfl, hk.ok, fun i hi => ?_⟩
  have hf := hk.fit
  exact Dk.read_length hk.dsk.at_.ok (by rw [hk.calm.len]; have : first + count ≤ 12 := hf; omega)

/-- both have appended -/
theorem both {r r' rx' : Rg} {m : Nat} {rec : Rec} {code code' : Int} {count first : Nat} {d d' : Dk} {g' : Nat → Sec} (h1 : (refuse r (cutN m) = some code ∧ r' = r ∧ d' = d) ∨ (refuse r (cutN m) = none ∧ code = 0 ∧ r' = { r with last := r.last + cutN m, top := r.last + cutN m } ∧ gAt first d' = layG count (cutR r.last rec) (gAt first d)))
    (h2 : (refuse r (cutN m) = some code' ∧ rx' = r ∧ g' = gAt first d) ∨ (refuse r (cutN m) = none ∧ code' = 0 ∧ rx' = { r with last := r.last + cutN m, top := r.last + cutN m } ∧ g' = layG count (cutR r.last rec) (gAt first d))) : code' = code ∧ rx' = r' ∧ g' = gAt first d' := by
  rcases h1 with ⟨a1, a2, a3⟩ | ⟨a1, a2, a3, a4⟩ <;> rcases h2 with ⟨b1, b2, b3⟩ | ⟨b1, b2, b3, b4⟩
  · rw [a1] at b1
    injection b1 with b1
    exact ⟨b1.symm, by rw [b2, a2], by rw [b3, a3]⟩
  · rw [a1] at b1; cases b1
  · rw [a1] at b1; cases b1
  · exact ⟨by rw [b2, a2], by rw [b3, a3], by rw [b4, a4]⟩

/-- a row, copied behind an empty one -/
theorem run_dup (w : World) {gb g off L c : Nat} {s : Rec} (hs : s.length = L) (hv : Vec w 1 (.slice (some ⟨gb, 0, none⟩) 0 0) 0 []) (hr : Rd w 1 (.slice (some ⟨g, off, none⟩) L c) L (bv s)) (hL : L ≤ 100000) : ∃ g2 o2 c2 w', (Builtin.append_ #[34, 34] 34 #[.slice (some ⟨gb, 0, none⟩) 0 0, .slice (some ⟨g, off, none⟩) L c]).run Try.prog w = .ok (.slice (some ⟨g2, o2, none⟩) L c2) w' ∧ Vec w' 1 (.slice (some ⟨g2, o2, none⟩) L c2) L (bv s) ∧ w.grownBy w' (some gb) ∧ (g2 = gb ∨ w.heap.size ≤ g2) := by
  rcases hr.form with ⟨e, _⟩ | ⟨ad, c', e, hc, hm, hcells⟩
  · cases e
  injection e with e _ e3
  injection e with e
  subst e
  subst e3
  rcases Nat.eq_zero_or_pos L with h0 | h0
  · subst h0
    have hnil : s = [] := List.eq_nil_of_length_eq_zero hs
    subst hnil
    have hrun := run_append_room_cells (P := Try.prog) w 34 34 5 Try.t5 Try.underlying34 info5 gb 0 0 0 ⟨g, off, none⟩ 0 c [] rfl (fun j u hu => by simp at hu) (fun u hu => by simp at hu) (Nat.le_refl _) (fun j hj => by simp at hj) (fun j hj => by simp at hj)
    exact ⟨gb, 0, 0, w, hrun, hv, ⟨rfl, rfl, rfl, Nat.le_refl _, fun _ _ _ => rfl⟩, Or.inl rfl⟩
  · obtain ⟨v', w', hrun, h2, h3, h4⟩ := run_vec_append (P := Try.prog) w 34 34 5 Try.t5 (.int .u8 0) 1 1 Try.underlying34 info5 zero5 size5 bytes5 rfl (by decide) _ 0 [] hv ⟨g, off, none⟩ L c (bv s) (by rw [bv_length, hs, Nat.mul_one]) hcells (bv_one _) (by unfold maxLen; omega) (by omega)
    rw [Nat.zero_add, List.nil_append] at h2
    obtain ⟨g2, o2, c2, rfl, _⟩ := h2.at_ h0
    refine ⟨g2, o2, c2, w', hrun, h2, h3, ?_⟩
    rcases h4 g2 rfl with h5 | h5
    · injection h5 with h5
      exact Or.inl h5.symm
    · exact Or.inr h5
theorem wpList_dup {ops : Array Oper} {rest : List Oper} {o : Oper} {a : Act} {Q : Exit → Act → World → Prop} {w : World} (hgd : o.guard = none) (s x : Operand)
    (ho : o.op = .call { callee := .builtin .append, args := #[s, x], argTypes := #[34, 34] }) (hty : o.type = 34)
    {gb g off L c : Nat} {rec : Rec} (hs : rec.length = L) (hsv : a.eval s = .slice (some ⟨gb, 0, none⟩) 0 0) (hv : Vec w 1 (.slice (some ⟨gb, 0, none⟩) 0 0) 0 []) (hxv : a.eval x = .slice (some ⟨g, off, none⟩) L c) (hr : Rd w 1 (.slice (some ⟨g, off, none⟩) L c) L (bv rec)) (hL : L ≤ 100000)
    (h : ∀ g2 o2 c2 w', Vec w' 1 (.slice (some ⟨g2, o2, none⟩) L c2) L (bv rec) → w.grownBy w' (some gb) → (g2 = gb ∨ w.heap.size ≤ g2) → wpList Try.prog ops Q rest (a.put o.dst (.slice (some ⟨g2, o2, none⟩) L c2)) w') : wpList Try.prog ops Q (o :: rest) a w :=
  wpList_plain hgd fun K hK => by
    obtain ⟨g2, o2, c2, w', hrun, h2, h3, h4⟩ := run_dup w hs hv hr hL
    unfold Oper.wp execOp
    simp only [ho, hty, resolve, invoke, builtin, Sem.run_bind, Sem.run_pure, Result.andThen_ok, List.map_toArray, List.map_cons, List.map_nil, hsv, hxv, hrun]
    exact hK _ _ (h g2 o2 c2 w' h2 h3 h4)

/-- a row that is there, whatever it holds -/
def There (w : World) (x : Value) (n : Nat) : Prop := (x = .slice none 0 0 ∧ n = 0) ∨ ∃ g off cap, x = .slice (some ⟨g, off, none⟩) n cap ∧ g < w.heap.size ∧ ∀ j, j < n → (w.cell? ⟨g, off + j, none⟩).isSome = true ∧ w.frozen? ⟨g, off + j, none⟩ = false
theorem Vec.there' {w : World} {x : Value} {n : Nat} {xs : List Value} (h : Vec w 1 x n xs) : There w x n := by
  rcases h.form with h1 | ⟨g, off, cap, rfl, h1, _, h3, _, h5⟩
  · exact .inl h1
  · exact .inr ⟨g, off, cap, rfl, h3, fun j hj => h5 j (by omega)⟩
theorem There.set {w : World} {x : Value} {n : Nat} (h : There w x n) (p : Addr) (u : Value) (hp : (w.cell? p).isSome = true) : There (w.setCell p u) x n := by
  rcases h with h1 | ⟨g, off, cap, rfl, h3, h5⟩
  · exact .inl h1
  · refine .inr ⟨g, off, cap, rfl, by rw [heap_size_setCell]; exact h3, fun j hj => ?_⟩
    rw [World.frozen?_setCell]
    refine ⟨?_, (h5 j hj).2⟩
    by_cases e : (⟨g, off + j, none⟩ : Addr) = p
    · subst e
      obtain ⟨z, hz⟩ := Option.isSome_iff_exists.1 hp
      rw [World.cell?_setCell_same _ _ _ hz]; rfl
    · rw [World.cell?_setCell_other _ _ _ _ fun h => e h.symm]
      exact (h5 j hj).1
/-- records, whatever they hold -/
structure RowsOf (w : World) (Z : Nat → Prop) (v : Value) (m : Nat) : Prop where
  rows : ∃ xs : List Value, Vec w 1 v m xs ∧ ∀ j, j < m → ∃ x n, xs[j]? = some x ∧ There w x n ∧ n ≤ maxLen ∧ ∀ k, x.ownBlock = some k → Z k ∧ v.ownBlock ≠ some k
theorem Recs.rows_ {w : World} {Z : Nat → Prop} {v : Value} {rs : List Rec} (h : Recs w Z v rs) : RowsOf w Z v rs.length := by
  obtain ⟨_, xs, h2, h3⟩ := h
  refine ⟨xs, h2, fun j hj => ?_⟩
  obtain ⟨x, a, b, c⟩ := h3 j hj
  obtain ⟨ax, cx, _, h4, h5⟩ := b.shape
  exact ⟨x, _, a, b.there', by omega, c⟩
theorem There.only {w w' : World} {x : Value} {n : Nat} (h : There w x n) {S : Nat → Prop} (o : Only S w w') (hn : ∀ k, x.ownBlock = some k → ¬ S k) : There w' x n := by
  rcases h with h1 | ⟨g, off, cap, rfl, h3, h5⟩
  · exact .inl h1
  · refine .inr ⟨g, off, cap, rfl, Nat.lt_of_lt_of_le h3 o.size, fun j hj => ?_⟩
    rw [o.cell h3 (hn g rfl), o.frozen h3 (hn g rfl)]
    exact h5 j hj
theorem RowsOf.only {w w' : World} {Z S : Nat → Prop} {v : Value} {m : Nat} (h : RowsOf w Z v m) (o : Only S w w') (hv : ∀ k, v.ownBlock = some k → ¬ S k) (hn : ∀ k, Z k → ¬ S k) : RowsOf w' Z v m := by
  obtain ⟨xs, h2, h3⟩ := h
  refine ⟨xs, h2.only o hv, fun j hj => ?_⟩
  obtain ⟨x, n, a, b, c, d⟩ := h3 j hj
  exact ⟨x, n, a, b.only o fun k hk => hn k (d k hk).1, c, d⟩
theorem RowsOf.set {w : World} {Z : Nat → Prop} {v : Value} {m g o : Nat} (h : RowsOf w Z v m) (u : Value) (hg : v.ownBlock ≠ some g) (hp : (w.cell? ⟨g, o, none⟩).isSome = true) : RowsOf (w.setCell ⟨g, o, none⟩ u) Z v m := by
  obtain ⟨xs, h2, h3⟩ := h
  have ho : Only (fun k => k = g) w (w.setCell ⟨g, o, none⟩ u) := (Only.refl (fun k => k = g) w).setCell (p := ⟨g, o, none⟩) rfl u
  refine ⟨xs, h2.only ho fun k hk e => hg (by rw [← e]; exact hk), fun j hj => ?_⟩
  obtain ⟨x, n, a, b, c, d⟩ := h3 j hj
  exact ⟨x, n, a, b.set _ _ hp, c, d⟩
theorem RowsOf.at_ {w : World} {Z : Nat → Prop} {v : Value} {m : Nat} (h : RowsOf w Z v m) {j : Nat} (hj : j < m) : ∃ g off c x n, v = .slice (some ⟨g, off, none⟩) m c ∧ m ≤ maxLen ∧ w.cell? ⟨g, off + j, none⟩ = some x ∧ There w x n ∧ n ≤ maxLen ∧ ∀ k, x.ownBlock = some k → Z k ∧ v.ownBlock ≠ some k := by
  obtain ⟨xs, h2, h3⟩ := h
  obtain ⟨x, n, a, b, c, d⟩ := h3 j hj
  obtain ⟨g, off, cap, e, h4, h5, _, h7, _⟩ := h2.at_ (by omega)
  exact ⟨g, off, cap, x, n, e, by omega, h7 j x a, b, c, d⟩
end Go.Proofs.Yteoeaojebklfjaa
namespace Go.Proofs.Yteoeaojebklfjaa
open Go.RowKit Go.Maps
set_option linter.unusedVariables false

set_option maxRecDepth 20000 in
set_option maxHeartbeats 2000000 in
theorem rplays_bad (f c b : Int) (a : Option Addr) (n cp : Nat) (w : World) (h : OpenBad 12 f c b) : Calls Try.prog 10 #[.int .i64 f, .int .i64 c, .int .i64 b, .slice a n cp] w fun e w' => e = .returned (.bool true) ∧ Below w.heap.size w w' := by
  have HH := Lib.hid h
  by_cases h1 : f < 0
  · have d1 : decide (f < 0) = true := by simpa using h1
    clear h h1
    go_enter Try.func10, Try.ntmps10
    go_wp2_with fail
    refine (new_dsk 12 12 rfl w _ (Only.refl _ _) (by decide) (by decide)).mono ?_
    rintro r w1 ⟨D, F1, rfl, h1, -, -⟩
    have S1 := Lib.hid h1
    have HO := Lib.hid (open_bad h1.at_ f c b (by simpa [Dk.new] using HH.out))
    clear h1
    go_wp2_with fail
    refine HO.out.mono ?_
    rintro r w2 ⟨rfl, e⟩
    obtain rfl := e
    skip
    go_wp2_with fail
    refine (awake_any _).mono ?_
    rintro r w3 ⟨rfl, o3⟩
    have O3 := Lib.hid (S1.out.only.trans o3)
    clear o3
    go_wp2_with fail
    go_ret
    exact ⟨rfl, O3.out.below (Nat.le_refl _) fun _ e => e.elim⟩
  have d1 : decide (f < 0) = false := by simpa using h1
  by_cases h2 : c < 1
  · have d2 : decide (c < 1) = true := by simpa using h2
    clear h h1 h2
    go_enter Try.func10, Try.ntmps10
    go_wp2_with fail
    refine (new_dsk 12 12 rfl w _ (Only.refl _ _) (by decide) (by decide)).mono ?_
    rintro r w1 ⟨D, F1, rfl, h1, -, -⟩
    have S1 := Lib.hid h1
    have HO := Lib.hid (open_bad h1.at_ f c b (by simpa [Dk.new] using HH.out))
    clear h1
    go_wp2_with fail
    refine HO.out.mono ?_
    rintro r w2 ⟨rfl, e⟩
    obtain rfl := e
    skip
    go_wp2_with fail
    refine (awake_any _).mono ?_
    rintro r w3 ⟨rfl, o3⟩
    have O3 := Lib.hid (S1.out.only.trans o3)
    clear o3
    go_wp2_with fail
    go_ret
    exact ⟨rfl, O3.out.below (Nat.le_refl _) fun _ e => e.elim⟩
  have d2 : decide (c < 1) = false := by simpa using h2
  by_cases h3 : 12 < c
  · have d3 : decide (12 < c) = true := by simpa using h3
    clear h h1 h2 h3
    go_enter Try.func10, Try.ntmps10
    go_wp2_with fail
    refine (new_dsk 12 12 rfl w _ (Only.refl _ _) (by decide) (by decide)).mono ?_
    rintro r w1 ⟨D, F1, rfl, h1, -, -⟩
    have S1 := Lib.hid h1
    have HO := Lib.hid (open_bad h1.at_ f c b (by simpa [Dk.new] using HH.out))
    clear h1
    go_wp2_with fail
    refine HO.out.mono ?_
    rintro r w2 ⟨rfl, e⟩
    obtain rfl := e
    skip
    go_wp2_with fail
    refine (awake_any _).mono ?_
    rintro r w3 ⟨rfl, o3⟩
    have O3 := Lib.hid (S1.out.only.trans o3)
    clear o3
    go_wp2_with fail
    go_ret
    exact ⟨rfl, O3.out.below (Nat.le_refl _) fun _ e => e.elim⟩
  have d3 : decide (12 < c) = false := by simpa using h3
  obtain ⟨m, hm⟩ : ∃ m : Int, 12 - c = m := ⟨_, rfl⟩
  have HW := Lib.hid (show wrap64 m = m from IntWalk.wrap64_in _ (by omega))
  by_cases h4 : m < f
  · have d4 : decide (m < f) = true := by simpa using h4
    clear h h1 h2 h3 h4
    go_enter Try.func10, Try.ntmps10
    go_wp2_with fail
    refine (new_dsk 12 12 rfl w _ (Only.refl _ _) (by decide) (by decide)).mono ?_
    rintro r w1 ⟨D, F1, rfl, h1, -, -⟩
    have S1 := Lib.hid h1
    have HO := Lib.hid (open_bad h1.at_ f c b (by simpa [Dk.new] using HH.out))
    clear h1
    go_wp2_with fail
    refine HO.out.mono ?_
    rintro r w2 ⟨rfl, e⟩
    obtain rfl := e
    have a2 := HW.out
    go_wp2_with fail
    refine (awake_any _).mono ?_
    rintro r w3 ⟨rfl, o3⟩
    have O3 := Lib.hid (S1.out.only.trans o3)
    clear o3
    go_wp2_with fail
    go_ret
    exact ⟨rfl, O3.out.below (Nat.le_refl _) fun _ e => e.elim⟩
  have d4 : decide (m < f) = false := by simpa using h4
  by_cases h5 : b < 0
  · have d5 : decide (b < 0) = true := by simpa using h5
    clear h h1 h2 h3 h4 h5
    go_enter Try.func10, Try.ntmps10
    go_wp2_with fail
    refine (new_dsk 12 12 rfl w _ (Only.refl _ _) (by decide) (by decide)).mono ?_
    rintro r w1 ⟨D, F1, rfl, h1, -, -⟩
    have S1 := Lib.hid h1
    have HO := Lib.hid (open_bad h1.at_ f c b (by simpa [Dk.new] using HH.out))
    clear h1
    go_wp2_with fail
    refine HO.out.mono ?_
    rintro r w2 ⟨rfl, e⟩
    obtain rfl := e
    have a2 := HW.out
    go_wp2_with fail
    refine (awake_any _).mono ?_
    rintro r w3 ⟨rfl, o3⟩
    have O3 := Lib.hid (S1.out.only.trans o3)
    clear o3
    go_wp2_with fail
    go_ret
    exact ⟨rfl, O3.out.below (Nat.le_refl _) fun _ e => e.elim⟩
  have d5 : decide (b < 0) = false := by simpa using h5
  have h6 : 4611686018427387904 < b := by
    have := HH.out
    unfold OpenBad at this
    omega
  have d6 : decide (4611686018427387904 < b) = true := by simpa using h6
  clear h h1 h2 h3 h4 h5 h6
  go_enter Try.func10, Try.ntmps10
  go_wp2_with fail
  refine (new_dsk 12 12 rfl w _ (Only.refl _ _) (by decide) (by decide)).mono ?_
  rintro r w1 ⟨D, F1, rfl, h1, -, -⟩
  have S1 := Lib.hid h1
  have HO := Lib.hid (open_bad h1.at_ f c b (by simpa [Dk.new] using HH.out))
  clear h1
  go_wp2_with fail
  refine HO.out.mono ?_
  rintro r w2 ⟨rfl, e⟩
  obtain rfl := e
  have a2 := HW.out
  go_wp2_with fail
  refine (awake_any _).mono ?_
  rintro r w3 ⟨rfl, o3⟩
  have O3 := Lib.hid (S1.out.only.trans o3)
  clear o3
  go_wp2_with fail
  go_ret
  exact ⟨rfl, O3.out.below (Nat.le_refl _) fun _ e => e.elim⟩
end Go.Proofs.Yteoeaojebklfjaa
namespace Go.Proofs.Yteoeaojebklfjaa
open Go.RowKit Go.Maps
set_option linter.unusedVariables false

section
variable {a : Act} {o : Oper} {x y : Operand} {p q z : Int}
theorem yields_rem5 (w : World) (ho : o.op = .binOp .rem 5 x y 5) (hx : a.eval x = .int .u8 p) (hy : a.eval y = .int .u8 q) (h0 : ¬ q = 0) (h1 : p.tmod q = z) (h2 : IntKind.u8.wrap z = z) : (execOp a.eval o).run Try.prog w = .ok (.value (.int .u8 z)) w := by
  have h0' : (q == 0) = false := by simpa using h0
  unfold execOp
  simp only [ho, hx, hy]
  go_simp
theorem yields_rem29 (w : World) (ho : o.op = .binOp .rem 29 x y 29) (hx : a.eval x = .int .u64 p) (hy : a.eval y = .int .u64 q) (h0 : ¬ q = 0) (h1 : p.tmod q = z) (h2 : IntKind.u64.wrap z = z) : (execOp a.eval o).run Try.prog w = .ok (.value (.int .u64 z)) w := by
  have h0' : (q == 0) = false := by simpa using h0
  unfold execOp
  simp only [ho, hx, hy]
  go_simp
theorem yields_quo (w : World) (ho : o.op = .binOp .quo 3 x y 3) (hx : a.eval x = .int .i64 p) (hy : a.eval y = .int .i64 q) (h0 : ¬ q = 0) (h1 : p.tdiv q = z) (h2 : IntKind.i64.wrap z = z) : (execOp a.eval o).run Try.prog w = .ok (.value (.int .i64 z)) w := by
  have h0' : (q == 0) = false := by simpa using h0
  unfold execOp
  simp only [ho, hx, hy]
  go_simp
theorem yields_eql5 (w : World) {b : Bool} (ho : o.op = .binOp .eql 5 x y 5) (hx : a.eval x = .int .u8 p) (hy : a.eval y = .int .u8 q) (h1 : (p == q) = b) : (execOp a.eval o).run Try.prog w = .ok (.value (.bool b)) w := by
  unfold execOp
  simp only [ho, hx, hy]
  go_simp
theorem yields_conv329 (w : World) (ho : o.op = .convert 3 29 x) (hx : a.eval x = .int .i64 p) (h : IntKind.u64.wrap p = z) : (execOp a.eval o).run Try.prog w = .ok (.value (.int .u64 z)) w := by
  unfold execOp
  simp only [ho, hx]
  go_simp
theorem yields_conv293 (w : World) (ho : o.op = .convert 29 3 x) (hx : a.eval x = .int .u64 p) (h : IntKind.i64.wrap p = z) : (execOp a.eval o).run Try.prog w = .ok (.value (.int .i64 z)) w := by
  unfold execOp
  simp only [ho, hx]
  go_simp
theorem yields_conv53 (w : World) (ho : o.op = .convert 5 3 x) (hx : a.eval x = .int .u8 p) (h : IntKind.i64.wrap p = z) : (execOp a.eval o).run Try.prog w = .ok (.value (.int .i64 z)) w := by
  unfold execOp
  simp only [ho, hx]
  go_simp
end
section
variable {W wk w' : World} {xs : List Value} {sz : Nat} {ob : Option Nat} {oa : Option Value} {ox : Option Nat}
theorem Wk.alloc83 (h : Wk W wk xs sz ob oa none) : Wk W (wk.alloc (.cells #[.int .i64 0, .bool false, .slice none 0 0] 83)) xs sz ob oa (some wk.heap.size) := by
  refine ⟨h.only.alloc _, fun g hg => ⟨(h.b g hg).1.alloc _, (h.b g hg).2⟩, fun v hv => ⟨(h.a v hv).1.alloc _, (h.a v hv).2⟩, fun g hg => ?_, fun g k hg hk => ?_, fun v k hv hk e => ?_⟩
  · injection hg with hg
    subst hg
    refine ⟨⟨fun i u hu => ?_, fun i => World.frozen?_alloc_new _ _ _ _, by simp⟩, h.only.size⟩
    rw [World.cell?_alloc_new]
    simpa using hu
  · injection hk with hk
    subst hk
    have := (h.b g hg).1.lt (k := g) rfl
    omega
  · injection hk with hk
    subst hk
    have := (h.a v hv).1.lt e
    omega
theorem Wk.make {v : Value} (h : Wk W wk xs sz none none ox) (hv : Vec w' 1 v sz xs) (o : Only None' wk w') (hn : ∀ k, v.ownBlock = some k → wk.heap.size ≤ k) : Wk W w' xs sz none (some v) ox := by
  refine ⟨h.only.trans o, fun _ h => (by cases h), fun u hu => ?_, fun g hg => ⟨(h.x g hg).1.kept o fun e => e, (h.x g hg).2⟩, fun _ _ h => (by cases h), fun u k hu hk e => ?_⟩
  · injection hu with hu
    subst hu
    exact ⟨hv, fun k hk => Nat.le_trans h.only.size (hn k hk)⟩
  · injection hu with hu
    subst hu
    have h1 := hn k e
    have h2 := (h.x k hk).1.lt
    omega
end
/-- what a step of the fifth kind reckons -/
structure Arith5 (ln : Int) (w8 pn r2 r3 x3 L r5 : Nat) (lb : Bool) : Prop where
  t30 : ∃ t : Int, (IntKind.u64.wrap ln).tmod 30 = t ∧ IntKind.u64.wrap t = t ∧ IntKind.i64.wrap t = (pn : Int)
  pn30 : pn < 30
  a2 : (w8 : Int).tmod 2 = (r2 : Int) ∧ IntKind.u8.wrap (r2 : Int) = (r2 : Int) ∧ ((r2 : Int) == 1) = lb
  a3 : IntKind.i64.wrap (w8 : Int) = (w8 : Int) ∧ (w8 : Int).tmod 3 = (r3 : Int) ∧ IntKind.i64.wrap (r3 : Int) = (r3 : Int)
  a4 : (r3 : Int) * 501 = (x3 : Int) ∧ IntKind.i64.wrap (x3 : Int) = (x3 : Int) ∧ (x3 : Int).tdiv 2 = (L : Int) ∧ IntKind.i64.wrap (L : Int) = (L : Int)
  l : L ≤ 501
  a5 : (w8 : Int).tmod 5 = (r5 : Int) ∧ (w8 : Int) % 5 = (r5 : Int) ∧ IntKind.u8.wrap (r5 : Int) = (r5 : Int)
theorem arith5 (ln : Int) (wh : UInt8) : ∃ pn r2 r3 x3 L r5 lb, Arith5 ln wh.toNat pn r2 r3 x3 L r5 lb := by
  obtain ⟨pn, h1, h2⟩ := nmod ln 30 (by decide) (by decide)
  have h0 := u64_nonneg ln
  have e : (IntKind.u64.wrap ln).tmod 30 = (IntKind.u64.wrap ln) % 30 := Int.tmod_eq_emod_of_nonneg h0
  have h3 := Int.emod_nonneg (IntKind.u64.wrap ln) (show (30 : Int) ≠ 0 by decide)
  have h4 := Int.emod_lt_of_pos (IntKind.u64.wrap ln) (show (0 : Int) < 30 by decide)
  have hb := wh.toNat_lt
  have h1' : wrap64 ((IntKind.u64.wrap ln).tmod 30) = (pn : Int) := h1
  rw [e, IntWalk.wrap64_in _ (by omega)] at h1'
  have uw : ∀ m : Nat, m < 256 → IntKind.u8.wrap (m : Int) = (m : Int) := fun m hm => by rw [u8_wrap, UInt8.toNat_ofNat_of_lt' (by show _ < 256; omega)]; omega
  refine ⟨pn, wh.toNat % 2, wh.toNat % 3, wh.toNat % 3 * 501, wh.toNat % 3 * 501 / 2, wh.toNat % 5, _, ⟨⟨_, rfl, ?_, ?_⟩, h2, ⟨rfl, uw _ (by omega), rfl⟩, ⟨IntWalk.i64_in _ (by omega), rfl, IntWalk.i64_in _ (by omega)⟩, ⟨by omega, IntWalk.i64_in _ (by omega), rfl, IntWalk.i64_in _ (by omega)⟩, by omega, ⟨rfl, by omega, uw _ (by omega)⟩⟩⟩
  · rw [e]
    exact IntWalk.u64_in _ (by omega)
  · rw [e, IntWalk.i64_in _ (by omega)]
    exact h1'
end Go.Proofs.Yteoeaojebklfjaa
