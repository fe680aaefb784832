/- DiskPlays: the steps that came in; both disks' steps. -/
import Derived.Test.YteoeaojebklfjaaR5
namespace Go.Proofs.Yteoeaojebklfjaa
open Go.RowKit Go.Maps Go.WideShapes
set_option linter.unusedVariables false

structure Stp where
  kind : Int
  at_ : Int
  what : UInt8
  whole : Bool
  keep : List Bool
  kv : Value

structure At5 (w : World) (b o : Nat) (s : Stp) : Prop where
  k0 : w.cell? ⟨b, o, none⟩ = some (.int .i64 s.kind)
  k1 : w.cell? ⟨b, o + 1, none⟩ = some (.int .i64 s.at_)
  k2 : w.cell? ⟨b, o + 2, none⟩ = some (.int .u8 (s.what.toNat : Int))
  k3 : w.cell? ⟨b, o + 3, none⟩ = some (.bool s.whole)
  k4 : w.cell? ⟨b, o + 4, none⟩ = some s.kv
  rd : Rd w 1 s.kv s.keep.length (bo s.keep)
  top : s.at_ ≤ 9223372036854775807
  many : s.keep.length ≤ 140737488351232

structure Stps (w : World) (a : Option Addr) (n : Nat) (ss : List Stp) : Prop where
  len : ss.length = n
  small : n ≤ 140737488351232
  at_ : ∀ j (hj : j < ss.length), ∃ b off, a = some ⟨b, off, none⟩ ∧ b < w.heap.size ∧ At5 w b (off + j * 5) ss[j]

noncomputable def fs55 : Array Field := match Try.prog.underlying 55 with
  | some (.struct fs) => fs
  | _ => #[]
theorem under55 : Try.prog.underlying 55 = some (.struct fs55) := by kernel_rfl
theorem hone55 : Go.Deep.oneCellFields Try.prog fs55 = true := by kernel_rfl
theorem cells55 : Try.prog.cellsOf 55 = fs55.size := by kernel_rfl
theorem size55 : fs55.size = 5 := by kernel_rfl
theorem bytes55 : Try.prog.bytesOf 55 = 48 := by kernel_rfl
theorem under48 : Try.prog.underlying 48 = some (.slice 55) := by kernel_rfl
theorem f55 : (fs55.toList.map (·.type)) = [3, 3, 5, 4, 23] := by kernel_rfl
theorem f55at (i : Nat) (t : TypeId) (h : (fs55.toList.map (·.type))[i]? = some t) : ∃ f, fs55[i]? = some f ∧ f.type = t := by
  rw [List.getElem?_map, Array.getElem?_toList] at h
  cases hf : fs55[i]? with
  | none => rw [hf] at h; cases h
  | some f => rw [hf] at h; injection h with h; exact ⟨f, rfl, h⟩
theorem wf64_le {n : Int} (h : (Lit.int .i64 n).wf = true) : n ≤ 9223372036854775807 := by
  have h1 : IntKind.min .i64 = -9223372036854775808 := by decide
  have h2 : IntKind.max .i64 = 9223372036854775807 := by decide
  simp only [Lit.wf, h1, h2, Bool.and_eq_true, decide_eq_true_eq] at h
  exact h.2

set_option maxRecDepth 20000 in
theorem open_steps {H : Type} {enc : TypeId × Value → H} {W : World} {base : Nat} {v : Value} {d : DataW H} {ps : List MemPlace}
    (hok : Value.okWide Try.prog W .any base 48 v) (hd : DataW.Trod enc Try.prog W 0 (fun _ => true) true 48 v d ps) (hw : ∀ n ∈ d.weights Try.prog 48, n ≤ reachBytes) :
    ∃ a len cap ss, v = .slice a len cap ∧ Stps W a len ss := by
  obtain ⟨a, len, cap, rfl, hle, _, hb, hc, hm, hat⟩ := open_flat under48 under55 hone55 cells55 hok hd hw
  rw [bytes55, reach_eq] at hle
  have key : ∀ j, j < len → ∃ s : Stp, ∃ b off, a = some ⟨b, off, none⟩ ∧ b < W.heap.size ∧ At5 W b (off + j * 5) s := by
    intro j hj
    obtain ⟨b, off, rfl, hf⟩ := hat j hj
    rw [size55] at hf
    obtain ⟨g0, e0, t0⟩ := f55at 0 3 (by rw [f55]; rfl)
    obtain ⟨g1, e1, t1⟩ := f55at 1 3 (by rw [f55]; rfl)
    obtain ⟨g2, e2, t2⟩ := f55at 2 5 (by rw [f55]; rfl)
    obtain ⟨g3, e3, t3⟩ := f55at 3 4 (by rw [f55]; rfl)
    obtain ⟨g4, e4, t4⟩ := f55at 4 23 (by rw [f55]; rfl)
    obtain ⟨u0, c0, s0⟩ := hf 0 g0 e0
    obtain ⟨u1, c1, s1⟩ := hf 1 g1 e1
    obtain ⟨u2, c2, s2⟩ := hf 2 g2 e2
    obtain ⟨u3, c3, s3⟩ := hf 3 g3 e3
    obtain ⟨u4, c4, s4⟩ := hf 4 g4 e4
    rw [t0] at s0; rw [t1] at s1; rw [t2] at s2; rw [t3] at s3; rw [t4] at s4
    obtain ⟨n0, rfl, _⟩ := s0.int _ Try.underlying3
    obtain ⟨n1, rfl, l1⟩ := s1.int _ Try.underlying3
    obtain ⟨n2, rfl, l2⟩ := s2.int _ Try.underlying5
    obtain ⟨n3, rfl⟩ := s3.bool Try.underlying4
    obtain ⟨l, hr, hlb⟩ := s4.row _ Try.underlying23 Try.underlying4 cells4
    rw [bytes4, reach_eq, Nat.mul_one] at hlb
    obtain ⟨c, hc⟩ := byte_of (wf8 l2)
    refine ⟨⟨n0, n1, c, n3, l, u4⟩, b, off, rfl, (hb _ rfl).2, ⟨c0, c1, ?_, c3, c4, hr, wf64_le l1, hlb⟩⟩
    show _ = some (Value.int .u8 (c.toNat : Int))
    rw [hc]; exact c2
  obtain ⟨ss, hl, hp⟩ := list_of _ len key
  exact ⟨a, len, cap, ss, rfl, ⟨hl, by omega, fun j hj => hp j hj⟩⟩

/-! ### the rows that a step makes -/
structure Rws (w0 w : World) (F G : Nat → Prop) (b : Value) (lb : Nat) (k : Value) (nk : Nat) : Prop where
  rb : ∃ ys, Vec w 1 b lb ys
  rk : ∃ ys, Vec w 1 k nk (bo ys)
  far : ∀ j, b.ownBlock = some j ∨ k.ownBlock = some j → ¬ F j ∧ ¬ G j ∧ w0.heap.size ≤ j
  bk : ∀ j, b.ownBlock = some j → k.ownBlock ≠ some j
section
variable {w0 w w' : World} {F F' G G' : Nat → Prop} {b k : Value} {lb nk : Nat}
theorem Rws.lt (h : Rws w0 w F G b lb k nk) {j : Nat} (hj : b.ownBlock = some j ∨ k.ownBlock = some j) : j < w.heap.size := by
  obtain ⟨ys, h1⟩ := h.rb
  obtain ⟨zs, h2⟩ := h.rk
  exact hj.elim (fun e => h1.lt e) fun e => h2.lt e
theorem Rws.only (h : Rws w0 w F G b lb k nk) {S : Nat → Prop} (o : Only S w w') (hS : ∀ j, b.ownBlock = some j ∨ k.ownBlock = some j → ¬ S j) (hF : ∀ j, j < w.heap.size → F' j → F j) (hG : ∀ j, j < w.heap.size → G' j → G j) : Rws w0 w' F' G' b lb k nk := by
  obtain ⟨ys, h1⟩ := h.rb
  obtain ⟨zs, h2⟩ := h.rk
  exact ⟨⟨ys, h1.only o fun g hg => hS g (.inl hg)⟩, ⟨zs, h2.only o fun g hg => hS g (.inr hg)⟩, fun j hj => ⟨fun e => (h.far j hj).1 (hF j (h.lt hj) e), fun e => (h.far j hj).2.1 (hG j (h.lt hj) e), (h.far j hj).2.2⟩, h.bk⟩
theorem Rws.new (h : Rws w0 w F G b lb k nk) (o : Only None' w w') : Rws w0 w' F G b lb k nk := h.only o (fun _ _ e => e) (fun _ _ e => e) fun _ _ e => e
theorem Rws.left (h : Rws w0 w F G b lb k nk) (o : Kept F F' w w') : Rws w0 w' F' G b lb k nk := h.only o.only (fun j hj => (h.far j hj).1) (fun j hl e => (o.fresh j e).resolve_right (by omega)) fun _ _ e => e
theorem Rws.right (h : Rws w0 w F G b lb k nk) (o : Kept G G' w w') : Rws w0 w' F G' b lb k nk := h.only o.only (fun j hj => (h.far j hj).2.1) (fun _ _ e => e) fun j hl e => (o.fresh j e).resolve_right (by omega)
theorem Rws.newL (h : Rws w0 w F G b lb k nk) (o : Only None' w w') (hF : ∀ i, F' i → w.heap.size ≤ i) : Rws w0 w' F' G b lb k nk := h.only o (fun _ _ e => e) (fun j hl e => by have := hF j e; omega) fun _ _ e => e
theorem Rws.newR (h : Rws w0 w F G b lb k nk) (o : Only None' w w') (hG : ∀ i, G' i → w.heap.size ≤ i) : Rws w0 w' F G' b lb k nk := h.only o (fun _ _ e => e) (fun _ _ e => e) fun j hl e => by have := hG j e; omega
theorem Rws.setB (h : Rws w0 w F G b lb k nk) {g off c : Nat} (hb : b = .slice (some ⟨g, off, none⟩) lb c) {y : Nat} (hy : y < lb) (v : Value) : Rws w0 (w.setCell ⟨g, off + y, none⟩ v) F G b lb k nk := by
  obtain ⟨ys, h1⟩ := h.rb
  obtain ⟨zs, h2⟩ := h.rk
  subst hb
  have ho : Only (fun j => j = g) w (w.setCell ⟨g, off + y, none⟩ v) := (Only.refl (fun j => j = g) w).setCell (p := ⟨g, off + y, none⟩) rfl v
  have h3 := h1.put (o := y) (vs := [v]) (by simp; omega)
  refine ⟨⟨ys.take y ++ [v] ++ ys.drop (y + 1), ?_⟩, ⟨zs, h2.only ho fun j hj e => h.bk g rfl (e ▸ hj)⟩, h.far, h.bk⟩
  simpa [World.setCells] using h3
theorem Rws.setK (h : Rws w0 w F G b lb k nk) {g off c : Nat} (hk : k = .slice (some ⟨g, off, none⟩) nk c) {y : Nat} (hy : y < nk) (v : Bool) : Rws w0 (w.setCell ⟨g, off + y, none⟩ (.bool v)) F G b lb k nk := by
  obtain ⟨ys, h1⟩ := h.rb
  obtain ⟨zs, h2⟩ := h.rk
  subst hk
  have ho : Only (fun j => j = g) w (w.setCell ⟨g, off + y, none⟩ (.bool v)) := (Only.refl (fun j => j = g) w).setCell (p := ⟨g, off + y, none⟩) rfl _
  have hl := h2.len
  rw [bo, List.length_map, Nat.mul_one] at hl
  refine ⟨⟨ys, h1.only ho fun j hj e => h.bk j hj (e ▸ rfl)⟩, ⟨zs.set y v, ?_⟩, h.far, h.bk⟩
  have := h2.put (o := y) (vs := [.bool v]) (by simp; omega)
  rw [bo, List.map_set, List.set_eq_take_append_cons_drop, if_pos (by rw [List.length_map]; omega)]
  simpa [World.setCells, bo] using this
end

section
variable {w0 w : World} {D X : Nat} {F G : Nat → Prop} {d x : Dk}
theorem Pair.rwrite (h : Pair w0 w D F d X G x) (hd : x.dead = false) {i : Nat} (hi : i < x.lasts.length) {s : Sec} (hs : s.length = 512) {n : Nat} (hf : x.Few n) (hn : n ≤ 999999) {e : Int} (he : x.err = e) :
    Calls Try.prog 31 #[.pointer (some ⟨X, 0, none⟩), .int .i64 (i : Int), .string (st s)] w fun r w' => r = .returned (.int .i64 e) ∧ ∃ G', Pair w0 w' D F d X G' (x.write i s) ∧ Kept G G' w w' := by
  obtain ⟨U1, U2, UK, R, hG⟩ := h.r.at_
  subst hG
  refine (rWrite_lies R hd hi hs hf hn he rfl).mono ?_
  rintro r w' ⟨rfl, G', h1, h2⟩
  exact ⟨rfl, G', h.right h1 h2, h2⟩
theorem Pair.rflush (h : Pair w0 w D F d X G x) (hd : x.dead = false) {n : Nat} (hf : x.Few n) (hn : n ≤ 999999) {e : Int} (he : x.err = e) :
    Calls Try.prog 32 #[.pointer (some ⟨X, 0, none⟩)] w fun r w' => r = .returned (.int .i64 e) ∧ ∃ G', Pair w0 w' D F d X G' x.flush ∧ Kept G G' w w' := by
  obtain ⟨U1, U2, UK, R, hG⟩ := h.r.at_
  subst hG
  refine (rFlush_lies R hd hf (by omega) he rfl).mono ?_
  rintro r w' ⟨rfl, G', h1, h2⟩
  exact ⟨rfl, G', h.right h1 h2, h2⟩
end

theorem long_any (a : Option Addr) (n c : Nat) (w : World) : Calls Try.prog 27 #[.slice a n c] w fun r w' => r = .returned (.bool (decide (80 < (n : Int)))) ∧ w' = w := by
  go_enter Try.func27, Try.ntmps27
  go_wp2_with fail
  go_ret
  exact ⟨rfl, rfl⟩
end Go.Proofs.Yteoeaojebklfjaa
