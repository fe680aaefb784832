/- Arguments that are slices of flat structs with strings; the steps that came in. -/
import Derived.Test.YtfjfpnlcmjpofaaL2
namespace Go.Proofs.Ytfjfpnlcmjpofaa
open Go.RowKit Go.WideShapes
set_option linter.unusedVariables false

/-- a cell's value is of its type's kind -/
structure SuitsS (P : Program) (t : TypeId) (v : Value) : Prop where
  int : ∀ k, P.underlying t = some (.int k) → ∃ n, v = .int k n ∧ (Lit.int k n).wf = true
  string : P.underlying t = some .string → ∃ s : ByteArray, v = .string s ∧ s.size ≤ reachBytes
  bool : P.underlying t = some .bool → ∃ b, v = .bool b

theorem open_flatS {H : Type} {P : Program} {enc : TypeId × Value → H} {W : World} {base : Nat} {t e : TypeId} {fs : Array Field} {v : Value} {d : DataW H} {ps : List MemPlace}
    (ht : P.underlying t = some (.slice e)) (he : P.underlying e = some (.struct fs)) (hone : Go.Deep.oneCellFields P fs = true) (hC : P.cellsOf e = fs.size)
    (hok : Value.okWide P W .any base t v) (hd : DataW.Trod enc P W 0 (fun _ => true) true t v d ps) (hw : ∀ n ∈ d.weights P t, n ≤ reachBytes) :
    ∃ a len cap, v = .slice a len cap ∧ len * P.bytesOf e ≤ reachBytes ∧ (a = none → len = 0 ∧ cap = 0) ∧ (∀ x, a = some x → x.spot = none ∧ x.block < W.heap.size) ∧ len ≤ cap ∧ cap ≤ maxLen ∧
      ∀ j, j < len → ∃ b off, a = some ⟨b, off, none⟩ ∧ ∀ (i : Nat) (f : Field), fs[i]? = some f → ∃ u, W.cell? ⟨b, off + j * fs.size + i, none⟩ = some u ∧ SuitsS P f.type u := by
  obtain ⟨fuel, hm⟩ := hd
  obtain ⟨a, len, cap, rfl⟩ := okWide_slice' ht hok
  rcases Go.Deep.open_slice ht hm with ⟨hcs, hx⟩ | ⟨x, l, c, m', n, D, Pl, hcs, hb, hl, hm', hmm, hx, hall⟩
  · simp [Value.cells] at hcs
    obtain ⟨rfl, rfl, rfl⟩ := hcs
    exact ⟨none, 0, 0, rfl, by omega, fun _ => ⟨rfl, rfl⟩, (fun x h => by cases h), Nat.le_refl _, Nat.zero_le _, fun j hj => by omega⟩
  · simp [Value.cells] at hcs
    obtain ⟨rfl, rfl, rfl⟩ := hcs
    obtain ⟨hs, hlt⟩ := okWide_lies ht hok
    obtain ⟨b, off, s⟩ := x
    simp only at hs hlt
    subst hs
    have hlm : len ≤ m' := by rw [hmm]; split <;> omega
    simp only [Prod.mk.injEq] at hx
    obtain ⟨hdx, -⟩ := hx
    have hww : ∀ n ∈ (len + (m' - len)) * P.bytesOf e :: (DataW.weightsAll P e ((List.range len).map D) ++ DataW.weightsAll P e ((List.range (m' - len)).map fun j => D (len + j))), n ≤ reachBytes := by
      rw [hdx] at hw
      simpa [DataW.weights, ht] using hw
    have hsz := hww _ (List.mem_cons_self ..)
    refine ⟨some ⟨b, off, none⟩, len, cap, rfl, Nat.le_trans (Nat.mul_le_mul_right _ (by omega)) hsz, (fun h => by cases h), (fun x h => by injection h with h; subst h; exact ⟨rfl, hlt⟩), hl, hm', fun j hj => ⟨b, off, rfl, fun i f hf => ?_⟩⟩
    obtain ⟨cs, h1, h2⟩ := hall j (by omega)
    rw [hC] at h1
    obtain ⟨ys, n', _, hy, hlen, hyl, hff⟩ := DataW.trod_struct he h2
    obtain ⟨ho, hk⟩ := Go.Deep.hone_of hone i f hf
    have hil : i < fs.size := (Array.getElem?_eq_some_iff.1 hf).1
    obtain ⟨_, hcl, hat⟩ := World.cells?_some h1
    have hcell := hat i hil
    have hil' : i < cs.length := by rw [hcl]; exact hil
    have hg := hff i f hf
    rw [ho, hk] at hg
    have hdrop : (cs.drop i).take 1 = [cs[i]] := by
      rw [List.drop_eq_getElem_cons hil']; rfl
    have hyi : ys[i]? = some (ys[i]'(by omega)) := List.getElem?_eq_getElem (by omega)
    rw [hdrop, hyi] at hg
    have hDj : D j = .agg (ys.map (·.1)) := by simp only [Prod.mk.injEq] at hy; exact hy.1
    have hwj : ∀ n ∈ (ys[i]'(by omega)).1.weights P f.type, n ≤ reachBytes := by
      intro n hn
      refine hww n (List.mem_cons_of_mem _ (List.mem_append_left _ (weights_all_mem (d := D j) (List.mem_map.2 ⟨j, List.mem_range.2 hj, rfl⟩) n ?_)))
      rw [hDj]
      have : n ∈ DataW.weightsEach P (fs.toList.map (·.type)) (ys.map (·.1)) := by
        refine DataW.weights_mem_each (j := i) (t := f.type) (d := (ys[i]'(by omega)).1) ?_ ?_ n hn
        · rw [List.getElem?_map, Array.getElem?_toList, hf]; rfl
        · rw [List.getElem?_map, hyi]; rfl
      simpa [DataW.weights, he] using this
    refine ⟨cs[i], ?_, ?_, ?_, ?_⟩
    · rw [List.getElem?_eq_getElem hil'] at hcell
      rw [← hcell]
      congr 1
      rw [Go.Deep.add_add]
      have aux : ∀ q : Nat, (⟨b, off, none⟩ : Addr).add q = ⟨b, off + q, none⟩ := fun q => by cases q <;> simp [Addr.add]
      rw [aux, Nat.add_assoc]
    · intro k hu
      obtain ⟨i0, q0, _, h4⟩ := DataW.trod_int hu hg
      simp at q0
      exact ⟨i0, q0, h4⟩
    · intro hu
      obtain ⟨s0, q0, q1, _⟩ := DataW.trod_string hu hg
      simp at q0
      refine ⟨s0, q0, ?_⟩
      have := hwj s0.data.toList.length (by rw [q1]; simp [DataW.weights])
      simpa using this
    · intro hu
      obtain ⟨b0, q0, _⟩ := DataW.trod_bool hu hg
      simp at q0
      exact ⟨b0, q0⟩


structure Stp where
  kind : Nat
  key : ByteArray
  cache : Int
  now : Int
  n : Int
  raw : Bool

structure At6 (w : World) (b o : Nat) (s : Stp) : Prop where
  k0 : w.cell? ⟨b, o, none⟩ = some (.int .u8 (s.kind : Int))
  k1 : w.cell? ⟨b, o + 1, none⟩ = some (.string s.key)
  k2 : w.cell? ⟨b, o + 2, none⟩ = some (.int .i64 s.cache)
  k3 : w.cell? ⟨b, o + 3, none⟩ = some (.int .i64 s.now)
  k4 : w.cell? ⟨b, o + 4, none⟩ = some (.int .i64 s.n)
  k5 : w.cell? ⟨b, o + 5, none⟩ = some (.bool s.raw)
/-- a step's words may be -/
structure Stp.Fine (s : Stp) : Prop where
  pl : Ytfjfpnlcmjpofaa.Fine s.key s.cache
  now : (Lit.int .i64 s.now).wf = true
  n : (Lit.int .i64 s.n).wf = true
structure Steps (w : World) (a : Option Addr) (n : Nat) (ss : List Stp) : Prop where
  len : ss.length = n
  le : n * 56 ≤ 140737488351232
  at_ : ∀ j (hj : j < ss.length), ∃ b off, a = some ⟨b, off, none⟩ ∧ b < w.heap.size ∧ At6 w b (off + j * 6) ss[j]
  fine : ∀ s ∈ ss, s.Fine

noncomputable def fs32 : Array Field := match Try.prog.underlying 32 with
  | some (.struct fs) => fs
  | _ => #[]
theorem under32 : Try.prog.underlying 32 = some (.struct fs32) := by kernel_rfl
theorem hone32 : Go.Deep.oneCellFields Try.prog fs32 = true := by kernel_rfl
theorem cells32 : Try.prog.cellsOf 32 = fs32.size := by kernel_rfl
theorem size32 : fs32.size = 6 := by kernel_rfl
theorem bytes32 : Try.prog.bytesOf 32 = 56 := by kernel_rfl
theorem under22 : Try.prog.underlying 22 = some (.slice 32) := by kernel_rfl
theorem f32 : (fs32.toList.map (·.type)) = [5, 9, 3, 3, 3, 4] := by kernel_rfl
theorem f32at (i : Nat) (t : TypeId) (h : (fs32.toList.map (·.type))[i]? = some t) : ∃ f, fs32[i]? = some f ∧ f.type = t := by
  rw [List.getElem?_map, Array.getElem?_toList] at h
  cases hf : fs32[i]? with
  | none => rw [hf] at h; cases h
  | some f => rw [hf] at h; injection h with h; exact ⟨f, rfl, h⟩
theorem u8_nat {n : Int} (h : (Lit.int .u8 n).wf = true) : ∃ k : Nat, n = (k : Int) := by
  have h0 : IntKind.u8.min = 0 := by decide
  simp [Lit.wf, h0] at h
  exact ⟨n.toNat, by omega⟩
theorem open_steps {H : Type} {enc : TypeId × Value → H} {W : World} {base : Nat} {v : Value} {d : DataW H} {ps : List MemPlace}
    (hok : Value.okWide Try.prog W .any base 22 v) (hd : DataW.Trod enc Try.prog W 0 (fun _ => true) true 22 v d ps) (hw : ∀ n ∈ d.weights Try.prog 22, n ≤ reachBytes) :
    ∃ a len cap ss, v = .slice a len cap ∧ Steps W a len ss := by
  obtain ⟨a, len, cap, rfl, hle, _, hb, hc, hm, hat⟩ := open_flatS under22 under32 hone32 cells32 hok hd hw
  rw [bytes32, reach_eq] at hle
  have key : ∀ j, j < len → ∃ s : Stp, s.Fine ∧ ∃ b off, a = some ⟨b, off, none⟩ ∧ b < W.heap.size ∧ At6 W b (off + j * 6) s := by
    intro j hj
    obtain ⟨b, off, rfl, hf⟩ := hat j hj
    rw [size32] at hf
    obtain ⟨g0, e0, t0⟩ := f32at 0 5 (by rw [f32]; rfl)
    obtain ⟨g1, e1, t1⟩ := f32at 1 9 (by rw [f32]; rfl)
    obtain ⟨g2, e2, t2⟩ := f32at 2 3 (by rw [f32]; rfl)
    obtain ⟨g3, e3, t3⟩ := f32at 3 3 (by rw [f32]; rfl)
    obtain ⟨g4, e4, t4⟩ := f32at 4 3 (by rw [f32]; rfl)
    obtain ⟨g5, e5, t5⟩ := f32at 5 4 (by rw [f32]; rfl)
    obtain ⟨u0, c0, s0⟩ := hf 0 g0 e0
    obtain ⟨u1, c1, s1⟩ := hf 1 g1 e1
    obtain ⟨u2, c2, s2⟩ := hf 2 g2 e2
    obtain ⟨u3, c3, s3⟩ := hf 3 g3 e3
    obtain ⟨u4, c4, s4⟩ := hf 4 g4 e4
    obtain ⟨u5, c5, s5⟩ := hf 5 g5 e5
    rw [t0] at s0; rw [t1] at s1; rw [t2] at s2; rw [t3] at s3; rw [t4] at s4; rw [t5] at s5
    obtain ⟨n0, rfl, w0⟩ := s0.int _ Try.underlying5
    obtain ⟨n1, rfl, w1⟩ := s1.string Try.underlying9
    obtain ⟨n2, rfl, w2⟩ := s2.int _ Try.underlying3
    obtain ⟨n3, rfl, w3⟩ := s3.int _ Try.underlying3
    obtain ⟨n4, rfl, w4⟩ := s4.int _ Try.underlying3
    obtain ⟨n5, rfl⟩ := s5.bool Try.underlying4
    obtain ⟨k0, rfl⟩ := u8_nat w0
    exact ⟨⟨k0, n1, n2, n3, n4, n5⟩, ⟨⟨Nat.le_trans w1 (by rw [reach_eq]; omega), w2⟩, w3, w4⟩, b, off, rfl, (hb _ rfl).2, ⟨c0, c1, c2, c3, c4, c5⟩⟩
  obtain ⟨ss, hl, hp⟩ := list_of _ len key
  exact ⟨a, len, cap, ss, rfl, ⟨hl, hle, fun j hj => (hp j hj).2, fun s hs => by
    obtain ⟨j, hj, rfl⟩ := List.getElem_of_mem hs
    exact (hp j hj).1⟩⟩
theorem At6.only {w w' : World} {S : Nat → Prop} {b o : Nat} {s : Stp} (h : At6 w b o s) (hb : b < w.heap.size) (ho : Only S w w') (hS : ¬ S b) : At6 w' b o s :=
  ⟨(ho.cell hb hS o).trans h.k0, (ho.cell hb hS (o + 1)).trans h.k1, (ho.cell hb hS (o + 2)).trans h.k2, (ho.cell hb hS (o + 3)).trans h.k3, (ho.cell hb hS (o + 4)).trans h.k4, (ho.cell hb hS (o + 5)).trans h.k5⟩

theorem keyed3 : Go.Maps.Keyed Try.prog 3 := Go.Maps.int_keyed Try.underlying3
/-! ### maps from numbers to numbers -/
open Go.Maps
theorem under26 : Try.prog.underlying 26 = some (.map 3 3) := by kernel_rfl
theorem zero3 (w : World) : (zeroValue 3).run Try.prog w = .ok (.int .i64 0) w := by kernel_rfl
structure IMap (w : World) (b n : Nat) (f : Int → Int) : Prop where
  own : ∃ D : DataW Unit, w.ownsMap Try.prog 3 (plainElem Try.prog 3) b n D ∧ ∀ k, D.atKey (.int .i64 k) (.lit (.int .i64 0)) = .lit (.int .i64 (f k))
section
variable {w w' : World} {b n : Nat} {f : Int → Int} {S : Nat → Prop}
theorem IMap.lt (h : IMap w b n f) : b < w.heap.size := by obtain ⟨D, h1, _⟩ := h.own; exact h1.lt
theorem IMap.only (h : IMap w b n f) (o : Only S w w') (hn : ¬ S b) : IMap w' b n f := by
  obtain ⟨D, h1, h2⟩ := h.own
  exact ⟨D, owns_same h1 (o.block b h1.lt hn), h2⟩
theorem IMap.made (w : World) : IMap (w.alloc (.map #[] 0)) w.heap.size 0 (fun _ => 0) := ⟨_, World.ownsMap_made w Try.prog 3 _, fun k => rfl⟩
set_option maxRecDepth 20000 in
theorem IMap.look (h : IMap w b n f) {k : Int} (hk : (Lit.int .i64 k).wf = true) : (Instr.lookup 26 (.map (some b)) (.int .i64 k) false).run Try.prog w = .ok (.int .i64 (f k)) w := by
  obtain ⟨D, h1, h2⟩ := h.own
  obtain ⟨c, hr, ha, _⟩ := h1.lookup_int keyed3 under26 Try.underlying3 (zero3 w) (keyOf_int_mk Try.underlying3 hk)
  rw [h2 k] at ha
  injection ha with ha
  injection ha with _ ha
  rw [hr, ha]
def upd (f : Int → Int) (k v : Int) : Int → Int := fun j => if j = k then v else f j
theorem IMap.put {D : DataW Unit} (h2 : ∀ k, D.atKey (.int .i64 k) (.lit (.int .i64 0)) = .lit (.int .i64 (f k))) {k v : Int} {m : Nat} (ht : IsMap D) (h3 : w'.ownsMap Try.prog 3 (plainElem Try.prog 3) b m (D.put (.int .i64 k) (.lit (.int .i64 v)))) : IMap w' b m (upd f k v) := by
  refine ⟨_, h3, fun j => ?_⟩
  unfold upd
  by_cases e : j = k
  · subst e
    rw [atKey_put_same ht (by trivial), if_pos rfl]
  · rw [atKey_put_other (fun e' => e (by injection e')), if_neg e, h2 j]
end
theorem u64_nonneg (x : Int) : 0 ≤ IntKind.u64.wrap x := by
  simp [IntKind.wrap, IntKind.bits, IntKind.signed]
  omega
theorem modk (x : Int) (m : Nat) (h1 : 1 ≤ m) (h2 : m ≤ 1000000) : ∃ N : Nat, wrap64 ((IntKind.u64.wrap x).tmod (m : Int)) = (N : Int) ∧ N < m := by
  have h0 := u64_nonneg x
  have e : (IntKind.u64.wrap x).tmod (m : Int) = (IntKind.u64.wrap x) % (m : Int) := Int.tmod_eq_emod_of_nonneg h0
  have a1 := Int.emod_nonneg (IntKind.u64.wrap x) (show (m : Int) ≠ 0 by omega)
  have a2 := Int.emod_lt_of_pos (IntKind.u64.wrap x) (show (0 : Int) < m by omega)
  refine ⟨((IntKind.u64.wrap x) % (m : Int)).toNat, ?_, by omega⟩
  rw [e, IntWalk.wrap64_in _ (by omega)]
  omega
theorem one2047 (x : Int) : ∃ N : Nat, wrap64 (1 + wrap64 ((IntKind.u64.wrap x).tmod 2047)) = (N : Int) ∧ 1 ≤ N ∧ N ≤ 2047 := by
  obtain ⟨m, h1, h2⟩ := modk x 2047 (by decide) (by decide)
  refine ⟨m + 1, ?_, by omega, by omega⟩
  have h1 : wrap64 ((IntKind.u64.wrap x).tmod 2047) = (m : Int) := h1
  rw [h1, IntWalk.wrap64_in _ (by omega)]
  omega
theorem info3 : Try.prog.info? 3 = some Try.t3 := by kernel_rfl
theorem t3_zero : Try.t3.zero = some (.int .i64 0) := by kernel_rfl
theorem t3_size : Try.t3.size = 1 := by kernel_rfl
theorem t3_bytes : Try.t3.bytes = 8 := by kernel_rfl
theorem vec_one (w : World) (v : Value) (t : TypeId) : Vec (w.alloc (.cells #[v] t)) 1 (.slice (some ⟨w.heap.size, 0, none⟩) 1 1) 1 [v] := by
  have hc := cells_new w [v] t
  refine ⟨rfl, .inr ⟨w.heap.size, 0, 1, rfl, Nat.le_refl _, by unfold maxLen; decide, hc.lt, fun j u hu => ?_, fun j hj => ?_⟩⟩
  · rw [Nat.zero_add]; exact hc.is j u hu
  · obtain rfl : j = 0 := by omega
    exact ⟨by rw [hc.is 0 v rfl]; rfl, hc.thaw 0⟩
theorem one_int (a : Int) : ∀ u ∈ [Value.int .i64 a], u.oneCell' = true := by
  intro u hu
  simp at hu
  subst hu
  rfl
end Go.Proofs.Ytfjfpnlcmjpofaa
