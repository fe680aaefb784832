/- H3 in one text. -/
import Derived.Test.YteoeaojebklfjaaGreatDoorV05
import Derived.ChangeKeysEq
namespace Go.Proofs.YteoeaojebklfjaaGreatDoor
open Go.RowKit Go.Maps
set_option linter.unusedVariables false

theorem boxed_row (w : World) (s : Sec) (h : s.length = 512) : Vec (w.alloc (.cells (bv s).toArray 133)) 1 (.slice (some ⟨w.heap.size, 0, none⟩) 512 512) 512 (bv s) := by
  refine ⟨by rw [bv_length, h], .inr ⟨w.heap.size, 0, 512, rfl, Nat.le_refl _, by unfold maxLen; decide, by simp, fun j u hu => ?_, fun j hj => ?_⟩⟩
  · rw [Nat.zero_add, World.cell?_alloc_new]
    simpa using hu
  · rw [Nat.zero_add, World.cell?_alloc_new]
    exact ⟨by simp [bv_length, h]; omega, World.frozen?_alloc_new _ _ _ _⟩
theorem bv_cell {w : World} {g off c : Nat} {s : Sec} (h : Vec w 1 (.slice (some ⟨g, off, none⟩) 512 c) 512 (bv s)) (hs : s.length = 512) {j : Nat} (hj : j < 512) : w.cell? ⟨g, off + j, none⟩ = some (.int .u8 ((s.getD j 0).toNat : Int)) := by
  refine h.range j _ ?_
  simp [bv, List.getD_eq_getElem?_getD, List.getElem?_eq_getElem (show j < s.length by omega)]

theorem or_disjoint {a b m : Nat} (ha : a < 2 ^ m) : a ||| b * 2 ^ m = a + b * 2 ^ m := by
  rw [Nat.or_comm, Nat.mul_comm b, ← Nat.two_pow_add_eq_or_of_lt ha, Nat.add_comm]
theorem bits_i64 {x y : Nat} (hx : x < 9223372036854775808) (hy : y < 9223372036854775808) (h : (x ||| y) < 9223372036854775808) : bits .or .i64 (x : Int) (y : Int) = ((x ||| y : Nat) : Int) := by
  have e : bits .or .i64 (x : Int) (y : Int) = IntKind.wrap .i64 ((((BitVec.ofInt 64 (x : Int)) ||| (BitVec.ofInt 64 (y : Int))).toNat : Nat) : Int) := rfl
  have h1 : (BitVec.ofInt 64 (x : Int)).toNat = x := by rw [BitVec.toNat_ofInt]; omega
  have h2 : (BitVec.ofInt 64 (y : Int)).toNat = y := by rw [BitVec.toNat_ofInt]; omega
  rw [e, BitVec.toNat_or, h1, h2, IntWalk.i64_in _ (by omega)]
theorem u64_in {x : Nat} (h : x < 18446744073709551616) : IntKind.u64.wrap (x : Int) = (x : Int) := by
  unfold IntKind.wrap
  simp only [IntKind.signed, Bool.false_and]
  exact Int.emod_eq_of_lt (by omega) (by show (x : Int) < 18446744073709551616; omega)
theorem bits_u64 {x y : Nat} (hx : x < 18446744073709551616) (hy : y < 18446744073709551616) (h : (x ||| y) < 18446744073709551616) : bits .or .u64 (x : Int) (y : Int) = ((x ||| y : Nat) : Int) := by
  have e : bits .or .u64 (x : Int) (y : Int) = IntKind.wrap .u64 ((((BitVec.ofInt 64 (x : Int)) ||| (BitVec.ofInt 64 (y : Int))).toNat : Nat) : Int) := rfl
  have h1 : (BitVec.ofInt 64 (x : Int)).toNat = x := by rw [BitVec.toNat_ofInt]; omega
  have h2 : (BitVec.ofInt 64 (y : Int)).toNat = y := by rw [BitVec.toNat_ofInt]; omega
  rw [e, BitVec.toNat_or, h1, h2, u64_in h]
theorem num_snoc (c : UInt8) : ∀ l : List UInt8, num (l ++ [c]) = num l + 256 ^ l.length * c.toNat
  | [] => by simp [num]
  | b :: r => by
    rw [List.cons_append, num, num_snoc c r, num, List.length_cons, Nat.pow_succ, Nat.mul_add, Nat.add_assoc, Nat.mul_comm (256 ^ r.length) 256, Nat.mul_assoc]
theorem num_lt : ∀ l : List UInt8, num l < 256 ^ l.length
  | [] => by simp [num]
  | b :: r => by
    have h := num_lt r
    have hb : b.toNat < 256 := b.toNat_lt
    rw [num, List.length_cons, Nat.pow_succ]
    omega
theorem size_or {a b : Nat} (ha : a < 256) (hb : b < 256) : bits .or .i64 (IntKind.i64.wrap (a : Int)) (IntKind.i64.wrap (IntKind.i64.wrap (b : Int) * 256)) = ((a + 256 * b : Nat) : Int) := by
  rw [IntWalk.i64_in (a : Int) (by omega), IntWalk.i64_in (b : Int) (by omega), IntWalk.i64_in _ (by omega)]
  have h := or_disjoint (a := a) (b := b) (m := 8) (by omega)
  have e := bits_i64 (x := a) (y := b * 2 ^ 8) (by omega) (by omega) (by rw [h]; omega)
  rw [h] at e
  rw [show ((b : Int) * 256) = ((b * 2 ^ 8 : Nat) : Int) by omega, e]
  omega

theorem num_round {s : Sec} (hs : s.length = 512) {k : Nat} (hk : k < 8) {c : UInt8} (hc : c = s.getD k 0) : bits .or .u64 (num (s.take k) : Int) (IntKind.u64.wrap (IntKind.u64.wrap (c.toNat : Int) * 2 ^ (8 * k))) = (num (s.take (k + 1)) : Int) := by
  have hkl : k < s.length := by omega
  have hc' : c = s[k] := by rw [hc, List.getD_eq_getElem?_getD, List.getElem?_eq_getElem hkl]; rfl
  have hb : c.toNat < 256 := c.toNat_lt
  have hl : (s.take k).length = k := by simp; omega
  have h1 := num_lt (s.take k)
  rw [hl] at h1
  have hp : 256 ^ k = 2 ^ (8 * k) := by rw [Nat.pow_mul]
  have hn := num_snoc c (s.take k)
  rw [hl] at hn
  rw [take_snoc' hkl, ← hc', hn]
  have h8 : 2 ^ (8 * k) ≤ 2 ^ 56 := Nat.pow_le_pow_right (by decide) (by omega)
  have hm : c.toNat * 2 ^ (8 * k) < 18446744073709551616 := by
    have : c.toNat * 2 ^ (8 * k) ≤ 255 * 2 ^ 56 := Nat.mul_le_mul (by omega) h8
    omega
  have h2 := or_disjoint (a := num (s.take k)) (b := c.toNat) (m := 8 * k) (by rw [← hp]; exact h1)
  have h3 : num (s.take k) + c.toNat * 2 ^ (8 * k) < 18446744073709551616 := by
    have : c.toNat * 2 ^ (8 * k) ≤ 255 * 2 ^ 56 := Nat.mul_le_mul (by omega) h8
    rw [hp] at h1
    omega
  have e0 : (IntKind.u64.wrap (c.toNat : Int)) * 2 ^ (8 * k) = ((c.toNat * 2 ^ (8 * k) : Nat) : Int) := by
    rw [u64_in (by omega), Int.natCast_mul, Int.natCast_pow]; rfl
  rw [e0, u64_in hm, bits_u64 (by omega) hm (by rw [h2]; exact h3), h2, hp, Nat.mul_comm]

def PRes (w w' : World) (r : Ending) (o : Option Pc) : Prop := Only None' w w' ∧ match o with
  | none => r = .returned (.tuple #[.agg #[.int .i64 0, .bool false, .slice none 0 0], .bool false])
  | some p => ∃ v, r = .returned (.tuple #[.agg #[.int .i64 (p.n : Int), .bool p.last, v], .bool true]) ∧ Vec w' 1 v p.data.length (bv p.data) ∧ ∀ g, v.ownBlock = some g → w.heap.size ≤ g

theorem results_mid_tmp {P : Program} {fn : Func} {p u : Tmp} {ty : TypeId} (h : fn.results = #[.cell p ty, .tmp u]) (tmps : Array Value) (w : World) (g : Nat) (cs : List Value) (d : TypeDesc)
    (hp : tmps.getD p undef = .pointer (some ⟨g, 0, none⟩)) (hc : w.rangeAt g 0 cs) (hu : P.underlying ty = some d) (hd : d.isRow = true) (hi : (P.info? ty).map (·.size) = some cs.length) :
    (results fn tmps).run P w = .ok (.tuple #[.agg cs.toArray, tmps.getD u undef]) w := by
  have hp' : tmps[p]?.getD undef = .pointer (some ⟨g, 0, none⟩) := by simpa using hp
  simp [results, h, hp', asAddr, run_loadVar_mid w g 0 ty cs d hc hu hd hi]
theorem info119 : (Tryz.prog.info? 132).map (·.size) = some 3 := by kernel_rfl
theorem range3 {w : World} {g : Nat} {a b c : Value} (h0 : w.cell? ⟨g, 0, none⟩ = some a) (h1 : w.cell? ⟨g, 1, none⟩ = some b) (h2 : w.cell? ⟨g, 2, none⟩ = some c) : w.rangeAt g 0 [a, b, c] := by
  intro j u hu
  rw [Nat.zero_add]
  match j with
  | 0 => simp at hu; subst hu; exact h0
  | 1 => simp at hu; subst hu; exact h1
  | 2 => simp at hu; subst hu; exact h2
  | j + 3 => simp at hu

structure Wk (W wk : World) (xs : List Value) (sz : Nat) (ob : Option Nat) (oa : Option Value) (ox : Option Nat) : Prop where
  only : Only None' W wk
  b : ∀ g, ob = some g → Vec wk 1 (.slice (some ⟨g, 0, none⟩) 0 0) 0 [] ∧ W.heap.size ≤ g
  a : ∀ v, oa = some v → Vec wk 1 v sz xs ∧ ∀ k, v.ownBlock = some k → W.heap.size ≤ k
  x : ∀ g, ox = some g → CellsR wk g [.int .i64 0, .bool false, .slice none 0 0] ∧ W.heap.size ≤ g
  bx : ∀ g h, ob = some g → ox = some h → h ≠ g
  ax : ∀ v h, oa = some v → ox = some h → v.ownBlock ≠ some h
structure Made (W wx : World) (g : Nat) (n : Int) (b : Bool) (v : Value) (xs : List Value) (sz : Nat) : Prop where
  cells : CellsR wx g [.int .i64 n, .bool b, v]
  new : W.heap.size ≤ g
  vec : Vec wx 1 v sz xs
  fresh : ∀ k, v.ownBlock = some k → W.heap.size ≤ k ∧ k ≠ g
  only : Only None' W wx
section
variable {W wk w' : World} {xs : List Value} {sz : Nat} {ob : Option Nat} {oa : Option Value} {ox : Option Nat}
theorem Wk.start (W : World) (xs : List Value) (sz : Nat) : Wk W W.drew xs sz none none none :=
  ⟨(Only.refl _ _).drew, fun _ h => (by cases h), fun _ h => (by cases h), fun _ h => (by cases h), fun _ _ h => (by cases h), fun _ _ h => (by cases h)⟩
theorem Wk.alloc (h : Wk W wk xs sz ob oa none) : Wk W (wk.alloc (.cells #[.int .i64 0, .bool false, .slice none 0 0] 132)) xs sz ob oa (some wk.heap.size) := by
  refine ⟨h.only.alloc _, fun g hg => ⟨(h.b g hg).1.alloc _, (h.b g hg).2⟩, fun v hv => ⟨(h.a v hv).1.alloc _, (h.a v hv).2⟩, fun g hg => ?_, fun g k hg hk => ?_, fun v k hv hk e => ?_⟩
  · injection hg with hg
    subst hg
    refine ⟨⟨fun i u hu => ?_, fun i => World.frozen?_alloc_new _ _ _ _, by simp⟩, h.only.size⟩
    rw [World.cell?_alloc_new]
    simpa using hu
  · injection hk with hk
    subst hk
    have := (h.b g hg).1.lt (k := g) rfl
    omega
  · injection hk with hk
    subst hk
    have := (h.a v hv).1.lt e
    omega
theorem Wk.build (h : Wk W wk xs sz none none ox) : Wk W (wk.alloc (.cells #[] 5)) xs sz (some wk.heap.size) none ox := by
  refine ⟨h.only.alloc _, fun g hg => ?_, fun _ h => (by cases h), fun g hg => ⟨(h.x g hg).1.kept ((Only.refl None' _).alloc _) fun e => e, (h.x g hg).2⟩, fun g k hg hk => ?_, fun _ _ h => (by cases h)⟩
  · injection hg with hg
    subst hg
    exact ⟨empty_row wk 5 1, h.only.size⟩
  · injection hg with hg
    subst hg
    have := (h.x k hk).1.lt
    omega
theorem Wk.brow {g : Nat} (h : Wk W wk xs sz (some g) none ox) : Vec wk 1 (.slice (some ⟨g, 0, none⟩) 0 0) 0 [] := (h.b g rfl).1
theorem Wk.append {g : Nat} {v' : Value} (h : Wk W wk xs sz (some g) none ox) (hv : Vec w' 1 v' (0 + sz) ([] ++ xs)) (hg : wk.grownBy w' (Value.slice (some ⟨g, 0, none⟩) 0 0).ownBlock) (hf : ∀ k, v'.ownBlock = some k → (Value.slice (some ⟨g, 0, none⟩) 0 0).ownBlock = some k ∨ wk.heap.size ≤ k) :
    Wk W w' xs sz none (some v') ox := by
  rw [Nat.zero_add, List.nil_append] at hv
  have hb := (h.b g rfl).2
  have o2 : Only (fun k => k = g) wk w' := (Only.refl (fun k => k = g) wk).grown hg fun k hk => by injection hk with hk; exact hk.symm
  refine ⟨h.only.trans2 o2 fun k hk e => by omega, fun _ h => (by cases h), fun v e => ?_, fun k hk => ⟨(h.x k hk).1.kept o2 fun e => h.bx g k rfl hk e, (h.x k hk).2⟩, fun _ _ h => (by cases h), fun v k e hk e2 => ?_⟩
  · injection e with e
    subst e
    refine ⟨hv, fun k hk => ?_⟩
    rcases hf k hk with h1 | h1
    · injection h1 with h1
      exact h1 ▸ hb
    · exact Nat.le_trans h.only.size h1
  · injection e with e
    subst e
    rcases hf k e2 with h1 | h1
    · injection h1 with h1
      exact h.bx g k rfl hk h1.symm
    · have := (h.x k hk).1.lt
      omega
theorem Wk.cell (h : Wk W wk xs sz ob oa ox) (p : Nat × Nat) (v : Value) (hc : W.cell? ⟨p.1, p.2, none⟩ = some v) : wk.cell? ⟨p.1, p.2, none⟩ = some v := by
  have hl := World.block_lt_of_cell? W _ hc
  rw [h.only.cell hl (fun e => e) p.2]
  exact hc
theorem Wk.news (h : Wk W wk xs sz ob oa ox) {S o : Nat} (hn : ∀ j u, xs[j]? = some u → W.cell? ⟨S, o + j, none⟩ = some u) : ∀ j u, xs[j]? = some u → wk.cell? ((⟨S, o, none⟩ : Addr).add j) = some u := by
  intro j u hu
  rw [add_mid' (⟨S, o, none⟩) j rfl]
  exact h.cell (S, o + j) u (hn j u hu)
theorem Wk.there {g : Nat} (h : Wk W wk xs sz ob oa (some g)) : wk.there g 0 3 := by
  intro j hj
  have hx := (h.x g rfl).1
  rw [Nat.zero_add]
  refine ⟨?_, hx.thaw j⟩
  match j with
  | 0 => rw [hx.is 0 _ rfl]; rfl
  | 1 => rw [hx.is 1 _ rfl]; rfl
  | 2 => rw [hx.is 2 _ rfl]; rfl
  | j + 3 => omega
theorem Wk.made {g : Nat} {v : Value} (h : Wk W wk xs sz none (some v) (some g)) (n : Int) (b : Bool) : Made W (wk.setCells g 0 [.int .i64 n, .bool b, v]) g n b v xs sz := by
  have hx := h.x g rfl
  have ha := h.a v rfl
  have hr := World.rangeAt_setCells_same wk g 0 [.int .i64 n, .bool b, v] h.there
  have o : Only (fun k => k = g) wk (wk.setCells g 0 [.int .i64 n, .bool b, v]) := (Only.refl (fun k => k = g) wk).setCells rfl 0 _
  refine ⟨⟨fun i u hu => ?_, fun i => by rw [World.frozen?_setCells]; exact hx.1.thaw i, by rw [size_setCells]; exact hx.1.lt⟩, hx.2, ha.1.only o fun k hk e => h.ax v g rfl rfl (e ▸ hk), fun k hk => ⟨ha.2 k hk, fun e => h.ax v g rfl rfl (e ▸ hk)⟩, h.only.trans2 o fun k hk e => by omega⟩
  have := hr i u hu
  rwa [Nat.zero_add] at this
end
theorem slice124 (S sz : Nat) (h : sz ≤ 501) (w : World) : (Instr.sliceAt 133 (.pointer (some ⟨S, 0, none⟩)) (some (.int .i64 11)) (some (.int .i64 ((11 + sz : Nat) : Int))) none).run Tryz.prog w = .ok (.slice (some ⟨S, 11, none⟩) sz 501) w := by
  have hs : (Tryz.prog.info? 5).map (·.size) = some 1 := info5s
  obtain ⟨m, hm⟩ : ∃ m, m = 11 + sz := ⟨_, rfl⟩
  rw [← hm]
  have h1 : (11 : Int) ≤ (m : Int) := by omega
  have h2 : (m : Int) ≤ 512 := by omega
  have hz : sz = m - 11 := by omega
  rw [hz]
  clear hm h hz
  go_simp
theorem yields_slice {a : Act} {o : Oper} {S sz : Nat} {x l hh : Operand} (w : World) (h : sz ≤ 501) (ho : o.op = .slice 133 x (some l) (some hh) none := by rfl) (hx : a.eval x = .pointer (some ⟨S, 0, none⟩) := by rfl) (hl : a.eval l = .int .i64 11 := by rfl) (hh' : a.eval hh = .int .i64 ((11 + sz : Nat) : Int) := by rfl) :
    (execOp a.eval o).run Tryz.prog w = .ok (.value (.slice (some ⟨S, 11, none⟩) sz 501)) w := by
  unfold execOp
  simp only [ho, Sem.run_bind, Option.map_some, Option.map_none, hx, hl, hh', slice124 S sz h w, Result.andThen_ok, Sem.run_pure]
theorem zero5 : Tryz.t5.zero = some (.int .u8 0) := by kernel_rfl
theorem size5 : Tryz.t5.size = 1 := by kernel_rfl
theorem bytes5 : Tryz.t5.bytes = 1 := by kernel_rfl

theorem cells5 : Tryz.prog.cellsOf 5 = 1 := by kernel_rfl
theorem plain5 : Tryz.prog.plainKey 5 = true := by kernel_rfl
theorem noguard124 : Tryz.prog.eqGuardType Tryz.prog.depth 133 = false := by kernel_rfl
theorem run_items (d : Nat) (w : World) (s t : Sec) (hl : s.length = t.length) : ∀ is : List Nat, (∀ i ∈ is, i < s.length) →
    (Op.eqItems (d + 1) 5 1 (bv s).toArray (bv t).toArray is).run Tryz.prog w = .ok (is.all fun i => s.getD i 0 == t.getD i 0) w
  | [], _ => by simp [Op.eqItems]
  | i :: is, h => by
    have hi := h i (by simp)
    have h1 : (bv s).toArray[i * 1]? = some (.int .u8 ((s.getD i 0).toNat : Int)) := by simp [bv, hi]
    have h2 : (bv t).toArray[i * 1]? = some (.int .u8 ((t.getD i 0).toNat : Int)) := by simp [bv, show i < t.length by omega]
    have e : (Op.equalIn (d + 1) 5 (.int .u8 ((s.getD i 0).toNat : Int)) (.int .u8 ((t.getD i 0).toNat : Int))).run Tryz.prog w = .ok (s.getD i 0 == t.getD i 0) w := by
      have : (((s.getD i 0).toNat : Int) == ((t.getD i 0).toNat : Int)) = (s.getD i 0 == t.getD i 0) := by
        rw [Bool.eq_iff_iff]
        simp only [beq_iff_eq, Int.natCast_inj]
        exact UInt8.toNat_inj
      rw [← this]
      simp [Op.equalIn, run_underlying Tryz.underlying5]
    simp only [Op.eqItems, Sem.run_bind, run_part_plain w plain5 h1, run_part_plain w plain5 h2, Result.andThen_ok, e]
    cases hb : (s.getD i 0 == t.getD i 0)
    · simp only [List.all_cons, hb]; simp
    · simp only [List.all_cons, hb, Bool.not_true, Bool.false_eq_true, if_false, Bool.true_and]
      exact run_items d w s t hl is fun j hj => h j (by simp [hj])
theorem all_same (s t : Sec) (n : Nat) (hs : s.length = n) (ht : t.length = n) : ((List.range n).all fun i => s.getD i 0 == t.getD i 0) = decide (s = t) := by
  rw [Bool.eq_iff_iff, decide_eq_true_eq, List.all_eq_true]
  constructor
  · intro h
    refine List.ext_getElem (by omega) fun i h1 h2 => ?_
    have := h i (by rw [List.mem_range]; omega)
    simpa [List.getD_eq_getElem?_getD, List.getElem?_eq_getElem h1, List.getElem?_eq_getElem h2] using this
  · rintro rfl i _
    simp
theorem run_equalIn124 (d : Nat) (w : World) (s t : Sec) (hs : s.length = 512) (ht : t.length = 512) : (Op.equalIn (d + 1 + 1) 133 (.agg (bv s).toArray) (.agg (bv t).toArray)).run Tryz.prog w = .ok (decide (s = t)) w := by
  rw [run_equalIn_array (P := Tryz.prog) w (d + 1) (bv s).toArray (bv t).toArray Tryz.underlying133 info5, cells5, run_items d w s t (by omega) (List.range 512) (fun i hi => by rw [List.mem_range] at hi; omega), all_same s t 512 hs ht]
theorem run_equal124 (w : World) (s t : Sec) (hs : s.length = 512) (ht : t.length = 512) : (Op.equal 133 (.agg (bv s).toArray) (.agg (bv t).toArray)).run Tryz.prog w = .ok (decide (s = t)) w := run_equalIn124 9998 w s t hs ht
theorem yields_neq124 {a : Act} {o : Oper} {x y : Operand} (w : World) (s t : Sec) (hs : s.length = 512) (ht : t.length = 512) (ho : o.op = .binOp .neq 133 x y 133) (hx : a.eval x = .agg (bv s).toArray) (hy : a.eval y = .agg (bv t).toArray) :
    (execOp a.eval o).run Tryz.prog w = .ok (.value (.bool (!decide (s = t)))) w := by
  unfold execOp
  simp only [ho, hx, hy]
  have e : (binOp .neq 133 (.agg (bv s).toArray) (.agg (bv t).toArray)).run Tryz.prog w = .ok (.bool (!decide (s = t))) w := by
    simp only [binOp, Sem.run_bind, run_equal124 w s t hs ht, Result.andThen_ok, Sem.run_pure]
  have g : (eqGuard .neq 133 x y (.agg (bv s).toArray) (.agg (bv t).toArray)).run Tryz.prog w = .ok () w := by
    simp [eqGuard]
  simp [g, e]
end Go.Proofs.YteoeaojebklfjaaGreatDoor
