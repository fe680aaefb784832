/- O7 Q4 in one text. -/
import Derived.Test.YteoeaojebklfjaaGreatDoorV14
import Derived.Test.YteoeaojebklfjaaGreatDoorV04
namespace Go.Proofs.YteoeaojebklfjaaGreatDoor
open Go.RowKit Go.Maps
set_option linter.unusedVariables false
set_option maxRecDepth 20000

theorem vec_empty (w : World) (t : TypeId) : Vec (w.alloc (.cells #[] t)) 1 (.slice (some ⟨w.heap.size, 0, none⟩) 0 0) 0 [] :=
  ⟨rfl, .inr ⟨w.heap.size, 0, 0, rfl, Nat.le_refl _, Nat.zero_le _, by simp, fun j u hu => by simp at hu, fun j hj => by omega⟩⟩
set_option maxHeartbeats 1000000 in
theorem bclone_any {w : World} {g off cap n : Nat} {s : List UInt8} (h : Rd w 1 (.slice (some ⟨g, off, none⟩) n cap) n (bv s)) (hn : n ≤ 1000000) : Calls Tryz.prog 57 #[.slice (some ⟨g, off, none⟩) n cap] w fun e w' => ∃ v, e = .returned v ∧ Vec w' 1 v n (bv s) ∧ (∀ g', v.ownBlock = some g' → w.heap.size ≤ g') ∧ Only None' w w' := by
  have hv0 := vec_empty w 5
  have hrd : Rd (w.alloc (.cells #[] 5)) 1 (.slice (some ⟨g, off, none⟩) n cap) n (bv s) := h.only ((Only.refl None' w).alloc _) fun _ _ _ _ e => e
  have hq : ∀ w, (binOp .eql 35 (.slice (some ⟨g, off, none⟩) n cap) (.slice none 0 0)).run Tryz.prog w = .ok (.bool false) w := fun w => run_eql_slice_nil (P := Tryz.prog) w 35 5 (some ⟨g, off, none⟩) n cap Tryz.underlying35
  have HV := Lib.hid hv0
  have HR := Lib.hid hrd
  have HN := Lib.hid hn
  clear hv0 hrd h hn
  go_enter Tryz.func57, Tryz.ntmps57
  go_wp2_with (first | (at_builtin; go_loud (refine wpList_append_any rfl _ _ 35 rfl 5 Tryz.t5 (.int .u8 0) 1 1 Tryz.underlying35 info5 zero5 size5 bytes5 rfl (by decide) (.slice (some ⟨w.heap.size, 0, none⟩) 0 0) 0 [] rfl HV.out (.slice (some ⟨g, off, none⟩) n cap) n (bv s) rfl HR.out (bv_one s) (by have := HN.out; unfold maxLen; omega) (by have := HN.out; omega) ?_); intro v2 w5 hv2 hg2 hf2; obtain ⟨oa2, oc2, rfl, _, _⟩ := hv2.shape; have HY := Lib.hid (And.intro hv2 (And.intro hg2 hf2)); clear hv2 hg2 hf2))
  go_ret
  have h1 := HY.out.1
  rw [List.nil_append, Nat.zero_add] at h1
  have h2 := HY.out.2.2
  rw [Nat.zero_add] at h2
  refine ⟨.slice oa2 n oc2, rfl, h1, fun g' hg' => ?_, ?_⟩
  · rcases h2 g' hg' with h2 | h2
    · injection h2 with h2
      have h3 : w.heap.size = g' := h2
      omega
    · simp at h2; omega
  · exact ((Only.refl None' w).alloc (.cells #[] 5)).trans2 ((Only.refl (fun k => k = w.heap.size) _).grown HY.out.2.1 fun k hk => by injection hk with hk; exact hk.symm) fun k hk e => by omega

structure Pg where
  first : Nat
  pages : Nat
  dirty : List (Nat × Sec)
  now : List (Nat × Sec)
  kept : Meta
  m : Meta
  idle : List (Nat × Bool)
  count : List (Nat × Bool)
structure Lo where
  P : Nat
  D : Nat
  Md : Nat
  Mn : Nat
  Mi : Nat
  Mc : Nat
def Lo.own (L : Lo) (k : Nat) : Prop := k = L.P ∨ k = L.Md ∨ k = L.Mn ∨ k = L.Mi ∨ k = L.Mc
def Pg.vs (L : Lo) (lg : Value) (p : Pg) : List Value := [.pointer (some ⟨L.D, 0, none⟩), lg, .int .i64 (p.first : Int), .int .i64 (p.pages : Int), .map (some L.Md), .map (some L.Mn),
  .int .i64 (p.kept.root : Int), .int .i64 (p.kept.used : Int), .int .i64 (p.kept.head : Int), .int .i64 p.kept.free, .int .i64 (p.m.root : Int), .int .i64 (p.m.used : Int), .int .i64 (p.m.head : Int), .int .i64 p.m.free, .map (some L.Mi), .map (some L.Mc)]
structure Lo.Ok (L : Lo) : Prop where
  pd : L.P ≠ L.Md
  pn : L.P ≠ L.Mn
  pi : L.P ≠ L.Mi
  pc : L.P ≠ L.Mc
  dn : L.Md ≠ L.Mn
  di : L.Md ≠ L.Mi
  dc : L.Md ≠ L.Mc
  ni : L.Mn ≠ L.Mi
  nc : L.Mn ≠ L.Mc
  ic : L.Mi ≠ L.Mc
structure PgAt (w : World) (L : Lo) (lg : Value) (p : Pg) : Prop where
  cells : CellsR w L.P (p.vs L lg)
  dirty : Mp pgE w L.Md p.dirty
  now : Mp pgE w L.Mn p.now
  idle : Mp mkE w L.Mi p.idle
  count : Mp mkE w L.Mc p.count
  ok : L.Ok
section
variable {w w' : World} {L : Lo} {lg : Value} {p : Pg} {S : Nat → Prop}
theorem PgAt.only (h : PgAt w L lg p) (o : Only S w w') (hS : ∀ k, L.own k → ¬ S k) : PgAt w' L lg p :=
  ⟨h.cells.kept o (hS _ (.inl rfl)), h.dirty.only o (hS _ (.inr (.inl rfl))), h.now.only o (hS _ (.inr (.inr (.inl rfl)))), h.idle.only o (hS _ (.inr (.inr (.inr (.inl rfl))))), h.count.only o (hS _ (.inr (.inr (.inr (.inr rfl))))), h.ok⟩
theorem PgAt.new (h : PgAt w L lg p) (o : Only None' w w') : PgAt w' L lg p := h.only o fun _ _ e => e
theorem PgAt.lt (h : PgAt w L lg p) {k : Nat} (hk : L.own k) : k < w.heap.size := by
  rcases hk with rfl | rfl | rfl | rfl | rfl
  · exact h.cells.lt
  · exact h.dirty.lt
  · exact h.now.lt
  · exact h.idle.lt
  · exact h.count.lt
end
def Meta.none : Meta := ⟨0, 0, 0, 0⟩
def Pg.made (len : Nat) : Pg := ⟨1 + len / 4, len - 1 - len / 4, [], [], Meta.none, Meta.none, [], []⟩
set_option maxHeartbeats 1000000 in
theorem made_any {w : World} {D : Nat} {F : Nat → Prop} {d : Dk} (h : DiskAt w D F d) (hl : 4 ≤ d.lasts.length) : Calls Tryz.prog 53 #[.pointer (some ⟨D, 0, none⟩)] w fun e w' => ∃ L, e = .returned (.pointer (some ⟨L.P, 0, none⟩)) ∧ L.D = D ∧ PgAt w' L (.pointer none) (Pg.made d.lasts.length) ∧ (∀ k, L.own k → w.heap.size ≤ k) ∧ Only None' w w' := by
  have hmm := @run_makeMap Tryz.prog
  have HL := Lib.hid (len_any h)
  have HP := Lib.hid (places_any h)
  have hm := h.ok.many
  obtain ⟨n, hn⟩ : ∃ n, n = d.lasts.length := ⟨_, rfl⟩
  rw [← hn] at HL HP hm hl ⊢
  obtain ⟨q, hq⟩ : ∃ q, q = n / 4 := ⟨_, rfl⟩
  rw [← hq] at HP
  have q0 : (0 : Int) ≤ (q : Int) := by omega
  have q1 : (q : Int) ≤ 65536 := by omega
  have n0 : (4 : Int) ≤ (n : Int) := by omega
  have n1 : (n : Int) ≤ 65536 := by omega
  have HQ := Lib.hid (And.intro hq (And.intro hl hm))
  clear hm hn h hl hq
  go_enter Tryz.func53, Tryz.ntmps53
  go_wp2_with fail
  refine HP.out.mono ?_
  rintro e w1 ⟨rfl, rfl⟩
  go_wp2_with fail
  refine HL.out.mono ?_
  rintro e w2 ⟨rfl, rfl⟩
  go_wp2_with fail
  go_ret
  have o : Only None' w2 (((((w2.alloc (.map #[] 0)).alloc (.map #[] 0)).alloc (.map #[] 0)).alloc (.map #[] 0))) := ((((Only.refl _ _).alloc _).alloc _).alloc _).alloc _
  have m0 := Mp.made w2 pgE
  have m1 := Mp.made (w2.alloc (.map #[] 0)) pgE
  have m2 := Mp.made ((w2.alloc (.map #[] 0)).alloc (.map #[] 0)) mkE
  have m3 := Mp.made (((w2.alloc (.map #[] 0)).alloc (.map #[] 0)).alloc (.map #[] 0)) mkE
  have e1 : (w2.alloc (.map #[] 0)).heap.size = w2.heap.size + 1 := by simp
  have e2 : ((w2.alloc (.map #[] 0)).alloc (.map #[] 0)).heap.size = w2.heap.size + 1 + 1 := by simp
  have e3 : (((w2.alloc (.map #[] 0)).alloc (.map #[] 0)).alloc (.map #[] 0)).heap.size = w2.heap.size + 1 + 1 + 1 := by simp
  have e4 : ((((w2.alloc (.map #[] 0)).alloc (.map #[] 0)).alloc (.map #[] 0)).alloc (.map #[] 0)).heap.size = w2.heap.size + 1 + 1 + 1 + 1 := by simp
  rw [e1] at m1
  rw [e2] at m2
  rw [e3] at m3
  have g1 : (1 : Int) + (q : Int) = ((1 + n / 4 : Nat) : Int) := by rw [← HQ.out.1]; omega
  have g2 : (n : Int) - 1 - (q : Int) = ((n - 1 - n / 4 : Nat) : Int) := by have := HQ.out; omega
  rw [g1, g2]
  refine ⟨⟨w2.heap.size + 1 + 1 + 1 + 1, D, w2.heap.size, w2.heap.size + 1, w2.heap.size + 1 + 1, w2.heap.size + 1 + 1 + 1⟩, rfl, rfl, ⟨?_, ?_, ?_, ?_, ?_, ?_⟩, ?_, o.alloc _⟩
  · have hc := cells_new ((((w2.alloc (.map #[] 0)).alloc (.map #[] 0)).alloc (.map #[] 0)).alloc (.map #[] 0)) (Pg.vs ⟨w2.heap.size + 1 + 1 + 1 + 1, D, w2.heap.size, w2.heap.size + 1, w2.heap.size + 1 + 1, w2.heap.size + 1 + 1 + 1⟩ (.pointer none) (Pg.made n)) 72
    rw [e4] at hc
    exact hc
  · exact (((m0.new ((Only.refl None' _).alloc _)).new ((Only.refl None' _).alloc _)).new ((Only.refl None' _).alloc _)).new ((Only.refl None' _).alloc _)
  · exact ((m1.new ((Only.refl None' _).alloc _)).new ((Only.refl None' _).alloc _)).new ((Only.refl None' _).alloc _)
  · exact (m2.new ((Only.refl None' _).alloc _)).new ((Only.refl None' _).alloc _)
  · exact m3.new ((Only.refl None' _).alloc _)
  · constructor <;> simp only [ne_eq] <;> omega
  · rintro k (h | h | h | h | h) <;> simp only at h <;> omega
end Go.Proofs.YteoeaojebklfjaaGreatDoor
namespace Go.Proofs.YteoeaojebklfjaaGreatDoor
open Go.RowKit Go.Maps
set_option linter.unusedVariables false
set_option maxRecDepth 20000

section
variable {a : Act} {o : Oper} {x y z : Operand} {g off : Nat}
theorem y_f72_0 (w : World) (ho : o.op = .fieldAddr 72 x 0) (hx : a.eval x = .pointer (some ⟨g, off, none⟩)) : (execOp a.eval o).run Tryz.prog w = .ok (.value (.pointer (some ⟨g, off, none⟩))) w := by
  unfold execOp
  simp only [ho, hx]
  go_simp
theorem y_f72_1 (w : World) (ho : o.op = .fieldAddr 72 x 1) (hx : a.eval x = .pointer (some ⟨g, off, none⟩)) : (execOp a.eval o).run Tryz.prog w = .ok (.value (.pointer (some ⟨g, off + 1, none⟩))) w := by
  unfold execOp
  simp only [ho, hx]
  go_simp
theorem y_f72_2 (w : World) (ho : o.op = .fieldAddr 72 x 2) (hx : a.eval x = .pointer (some ⟨g, off, none⟩)) : (execOp a.eval o).run Tryz.prog w = .ok (.value (.pointer (some ⟨g, off + 2, none⟩))) w := by
  unfold execOp
  simp only [ho, hx]
  go_simp
theorem y_f72_3 (w : World) (ho : o.op = .fieldAddr 72 x 3) (hx : a.eval x = .pointer (some ⟨g, off, none⟩)) : (execOp a.eval o).run Tryz.prog w = .ok (.value (.pointer (some ⟨g, off + 3, none⟩))) w := by
  unfold execOp
  simp only [ho, hx]
  go_simp
theorem y_f72_4 (w : World) (ho : o.op = .fieldAddr 72 x 4) (hx : a.eval x = .pointer (some ⟨g, off, none⟩)) : (execOp a.eval o).run Tryz.prog w = .ok (.value (.pointer (some ⟨g, off + 4, none⟩))) w := by
  unfold execOp
  simp only [ho, hx]
  go_simp
theorem y_f72_5 (w : World) (ho : o.op = .fieldAddr 72 x 5) (hx : a.eval x = .pointer (some ⟨g, off, none⟩)) : (execOp a.eval o).run Tryz.prog w = .ok (.value (.pointer (some ⟨g, off + 5, none⟩))) w := by
  unfold execOp
  simp only [ho, hx]
  go_simp
theorem y_f72_6 (w : World) (ho : o.op = .fieldAddr 72 x 6) (hx : a.eval x = .pointer (some ⟨g, off, none⟩)) : (execOp a.eval o).run Tryz.prog w = .ok (.value (.pointer (some ⟨g, off + 6, none⟩))) w := by
  unfold execOp
  simp only [ho, hx]
  go_simp
theorem y_f72_7 (w : World) (ho : o.op = .fieldAddr 72 x 7) (hx : a.eval x = .pointer (some ⟨g, off, none⟩)) : (execOp a.eval o).run Tryz.prog w = .ok (.value (.pointer (some ⟨g, off + 10, none⟩))) w := by
  unfold execOp
  simp only [ho, hx]
  go_simp
theorem y_f72_8 (w : World) (ho : o.op = .fieldAddr 72 x 8) (hx : a.eval x = .pointer (some ⟨g, off, none⟩)) : (execOp a.eval o).run Tryz.prog w = .ok (.value (.pointer (some ⟨g, off + 14, none⟩))) w := by
  unfold execOp
  simp only [ho, hx]
  go_simp
theorem y_f72_9 (w : World) (ho : o.op = .fieldAddr 72 x 9) (hx : a.eval x = .pointer (some ⟨g, off, none⟩)) : (execOp a.eval o).run Tryz.prog w = .ok (.value (.pointer (some ⟨g, off + 15, none⟩))) w := by
  unfold execOp
  simp only [ho, hx]
  go_simp
theorem y_f67_0 (w : World) (ho : o.op = .fieldAddr 67 x 0) (hx : a.eval x = .pointer (some ⟨g, off, none⟩)) : (execOp a.eval o).run Tryz.prog w = .ok (.value (.pointer (some ⟨g, off, none⟩))) w := by
  unfold execOp
  simp only [ho, hx]
  go_simp
theorem y_f67_1 (w : World) (ho : o.op = .fieldAddr 67 x 1) (hx : a.eval x = .pointer (some ⟨g, off, none⟩)) : (execOp a.eval o).run Tryz.prog w = .ok (.value (.pointer (some ⟨g, off + 1, none⟩))) w := by
  unfold execOp
  simp only [ho, hx]
  go_simp
theorem y_f67_2 (w : World) (ho : o.op = .fieldAddr 67 x 2) (hx : a.eval x = .pointer (some ⟨g, off, none⟩)) : (execOp a.eval o).run Tryz.prog w = .ok (.value (.pointer (some ⟨g, off + 2, none⟩))) w := by
  unfold execOp
  simp only [ho, hx]
  go_simp
theorem y_f67_3 (w : World) (ho : o.op = .fieldAddr 67 x 3) (hx : a.eval x = .pointer (some ⟨g, off, none⟩)) : (execOp a.eval o).run Tryz.prog w = .ok (.value (.pointer (some ⟨g, off + 3, none⟩))) w := by
  unfold execOp
  simp only [ho, hx]
  go_simp
theorem y_load3 {w : World} {z : Int} (ho : o.op = .load 3 x) (hx : a.eval x = .pointer (some ⟨g, off, none⟩)) (hc : w.cell? ⟨g, off, none⟩ = some (.int .i64 z)) : (execOp a.eval o).run Tryz.prog w = .ok (.value (.int .i64 z)) w := by
  unfold execOp
  simp only [ho, hx]
  go_simp
theorem y_load4 {w : World} {z : Bool} (ho : o.op = .load 4 x) (hx : a.eval x = .pointer (some ⟨g, off, none⟩)) (hc : w.cell? ⟨g, off, none⟩ = some (.bool z)) : (execOp a.eval o).run Tryz.prog w = .ok (.value (.bool z)) w := by
  unfold execOp
  simp only [ho, hx]
  go_simp
theorem y_load23 {w : World} {z : Option Addr} (ho : o.op = .load 23 x) (hx : a.eval x = .pointer (some ⟨g, off, none⟩)) (hc : w.cell? ⟨g, off, none⟩ = some (.pointer z)) : (execOp a.eval o).run Tryz.prog w = .ok (.value (.pointer z)) w := by
  unfold execOp
  simp only [ho, hx]
  go_simp
theorem y_load68 {w : World} {z : Option Addr} (ho : o.op = .load 68 x) (hx : a.eval x = .pointer (some ⟨g, off, none⟩)) (hc : w.cell? ⟨g, off, none⟩ = some (.pointer z)) : (execOp a.eval o).run Tryz.prog w = .ok (.value (.pointer z)) w := by
  unfold execOp
  simp only [ho, hx]
  go_simp
theorem y_load69 {w : World} {z : Option Nat} (ho : o.op = .load 69 x) (hx : a.eval x = .pointer (some ⟨g, off, none⟩)) (hc : w.cell? ⟨g, off, none⟩ = some (.map z)) : (execOp a.eval o).run Tryz.prog w = .ok (.value (.map z)) w := by
  unfold execOp
  simp only [ho, hx]
  go_simp
theorem y_load70 {w : World} {z : Option Nat} (ho : o.op = .load 70 x) (hx : a.eval x = .pointer (some ⟨g, off, none⟩)) (hc : w.cell? ⟨g, off, none⟩ = some (.map z)) : (execOp a.eval o).run Tryz.prog w = .ok (.value (.map z)) w := by
  unfold execOp
  simp only [ho, hx]
  go_simp
theorem y_load29 {w : World} {z : Int} (ho : o.op = .load 29 x) (hx : a.eval x = .pointer (some ⟨g, off, none⟩)) (hc : w.cell? ⟨g, off, none⟩ = some (.int .i64 z)) : (execOp a.eval o).run Tryz.prog w = .ok (.value (.int .i64 z)) w := by
  unfold execOp
  simp only [ho, hx]
  go_simp
theorem y_move (w : World) {v : Value} (ho : o.op = .move x) (hx : a.eval x = v) : (execOp a.eval o).run Tryz.prog w = .ok (.value v) w := by
  unfold execOp
  simp only [ho, hx]
  go_simp
theorem y_assign (w : World) {v : Value} (ho : o.op = .assign x) (hx : a.eval x = v) : (execOp a.eval o).run Tryz.prog w = .ok (.value v) w := by
  unfold execOp
  simp only [ho, hx]
  go_simp
theorem y_nil (w : World) {p : Addr} (ho : o.op = .nilCheck x) (hx : a.eval x = .pointer (some p)) : (execOp a.eval o).run Tryz.prog w = .ok (.value (.pointer (some p))) w := by
  unfold execOp
  simp only [ho, hx]
  go_simp
theorem y_ext0 (w : World) {p q : Value} (ho : o.op = .extract x 0) (hx : a.eval x = .tuple #[p, q]) : (execOp a.eval o).run Tryz.prog w = .ok (.value p) w := by
  unfold execOp
  simp only [ho, hx]
  go_simp
theorem y_ext1 (w : World) {p q : Value} (ho : o.op = .extract x 1) (hx : a.eval x = .tuple #[p, q]) : (execOp a.eval o).run Tryz.prog w = .ok (.value q) w := by
  unfold execOp
  simp only [ho, hx]
  go_simp
theorem y_add3 (w : World) {p q r : Int} (he : p + q = r) (h0 : -9223372036854775808 ≤ r) (h1 : r ≤ 9223372036854775807) (ho : o.op = .binOp .add 3 x y 3) (hx : a.eval x = .int .i64 p) (hy : a.eval y = .int .i64 q) : (execOp a.eval o).run Tryz.prog w = .ok (.value (.int .i64 r)) w := by
  subst he
  unfold execOp
  simp only [ho, hx, hy]
  go_simp
  exact IntWalk.i64_in _ (by omega)
theorem y_sub3 (w : World) {p q r : Int} (he : p - q = r) (h0 : -9223372036854775808 ≤ r) (h1 : r ≤ 9223372036854775807) (ho : o.op = .binOp .sub 3 x y 3) (hx : a.eval x = .int .i64 p) (hy : a.eval y = .int .i64 q) : (execOp a.eval o).run Tryz.prog w = .ok (.value (.int .i64 r)) w := by
  subst he
  unfold execOp
  simp only [ho, hx, hy]
  go_simp
  exact IntWalk.i64_in _ (by omega)
theorem y_gtr3 (w : World) {p q : Int} {b : Bool} (hb : decide (q < p) = b) (ho : o.op = .binOp .gtr 3 x y 3) (hx : a.eval x = .int .i64 p) (hy : a.eval y = .int .i64 q) : (execOp a.eval o).run Tryz.prog w = .ok (.value (.bool b)) w := by
  subst hb
  unfold execOp
  simp only [ho, hx, hy]
  go_simp
theorem y_quo3 (w : World) {p q r : Nat} (he : p / q = r) (hq : 0 < q) (h1 : p ≤ 9223372036854775807) (ho : o.op = .binOp .quo 3 x y 3) (hx : a.eval x = .int .i64 (p : Int)) (hy : a.eval y = .int .i64 (q : Int)) : (execOp a.eval o).run Tryz.prog w = .ok (.value (.int .i64 (r : Int))) w := by
  subst he
  have g0 : (0 : Int) ≤ (p : Int) := by omega
  have g1 : (p : Int) ≤ 9223372036854775807 := by omega
  have g2 : ¬ (q : Int) = 0 := by omega
  have g3 : ((q : Int) == 0) = false := by simp; omega
  unfold execOp
  simp only [ho, hx, hy]
  go_simp
  have hle := Nat.div_le_self p q
  have e : (p : Int) / (q : Int) = ((p / q : Nat) : Int) := rfl
  rw [if_neg (by omega), e]
  obtain ⟨r, hr⟩ : ∃ r, r = p / q := ⟨_, rfl⟩
  rw [← hr] at hle ⊢
  rw [IntWalk.i64_in _ (by omega)]
theorem y_enter {n : Nat} {args : List Operand} {ts : Array TypeId} (vs : List Value) (ho : o.op = .call { callee := .value (.func n), args := args.toArray, argTypes := ts }) (hv : args.map a.eval = vs) (hc : ∀ w, (callFunc n vs.toArray).run Tryz.prog w = .ok (.enter n vs.toArray) w) (w : World) : (execOp a.eval o).run Tryz.prog w = .ok (.enter n vs.toArray) w := by
  unfold execOp
  simp only [ho]
  have := hc w
  have hv' : args.toArray.map a.eval = vs.toArray := by rw [List.map_toArray, hv]
  go_simp
theorem wp_enter {w : World} {f : Nat} {args : Array Value} {K : Act → World → Prop} {Q : Exit → Act → World → Prop} (h : (execOp a.eval o).run Tryz.prog w = .ok (.enter f args) w) (hc : Calls Tryz.prog f args w fun e w' => ∃ v, e = .returned v ∧ K (a.put o.dst v) w') : o.wp Tryz.prog a w K Q := by
  unfold Oper.wp
  rw [h, Oper.upon_enter]
  refine hc.mono ?_
  rintro e w' ⟨v, rfl, hk⟩
  exact hk
theorem call28_ (args : Array Value) (w : World) : (callFunc 28 args).run Tryz.prog w = .ok (.enter 28 args) w := by go_simp
theorem call29_ (args : Array Value) (w : World) : (callFunc 29 args).run Tryz.prog w = .ok (.enter 29 args) w := by go_simp
theorem call38_ (args : Array Value) (w : World) : (callFunc 38 args).run Tryz.prog w = .ok (.enter 38 args) w := by go_simp
theorem call39_ (args : Array Value) (w : World) : (callFunc 39 args).run Tryz.prog w = .ok (.enter 39 args) w := by go_simp
theorem call40_ (args : Array Value) (w : World) : (callFunc 40 args).run Tryz.prog w = .ok (.enter 40 args) w := by go_simp
theorem call41_ (args : Array Value) (w : World) : (callFunc 41 args).run Tryz.prog w = .ok (.enter 41 args) w := by go_simp
theorem call42_ (args : Array Value) (w : World) : (callFunc 42 args).run Tryz.prog w = .ok (.enter 42 args) w := by go_simp
theorem call43_ (args : Array Value) (w : World) : (callFunc 43 args).run Tryz.prog w = .ok (.enter 43 args) w := by go_simp
theorem call44_ (args : Array Value) (w : World) : (callFunc 44 args).run Tryz.prog w = .ok (.enter 44 args) w := by go_simp
theorem call45_ (args : Array Value) (w : World) : (callFunc 45 args).run Tryz.prog w = .ok (.enter 45 args) w := by go_simp
theorem call46_ (args : Array Value) (w : World) : (callFunc 46 args).run Tryz.prog w = .ok (.enter 46 args) w := by go_simp
theorem call47_ (args : Array Value) (w : World) : (callFunc 47 args).run Tryz.prog w = .ok (.enter 47 args) w := by go_simp
theorem call48_ (args : Array Value) (w : World) : (callFunc 48 args).run Tryz.prog w = .ok (.enter 48 args) w := by go_simp
theorem call49_ (args : Array Value) (w : World) : (callFunc 49 args).run Tryz.prog w = .ok (.enter 49 args) w := by go_simp
theorem call50_ (args : Array Value) (w : World) : (callFunc 50 args).run Tryz.prog w = .ok (.enter 50 args) w := by go_simp
theorem call51_ (args : Array Value) (w : World) : (callFunc 51 args).run Tryz.prog w = .ok (.enter 51 args) w := by go_simp
theorem call52_ (args : Array Value) (w : World) : (callFunc 52 args).run Tryz.prog w = .ok (.enter 52 args) w := by go_simp
theorem call54_ (args : Array Value) (w : World) : (callFunc 54 args).run Tryz.prog w = .ok (.enter 54 args) w := by go_simp
theorem call55_ (args : Array Value) (w : World) : (callFunc 55 args).run Tryz.prog w = .ok (.enter 55 args) w := by go_simp
theorem call56_ (args : Array Value) (w : World) : (callFunc 56 args).run Tryz.prog w = .ok (.enter 56 args) w := by go_simp
theorem call58_ (args : Array Value) (w : World) : (callFunc 58 args).run Tryz.prog w = .ok (.enter 58 args) w := by go_simp
theorem call66_ (args : Array Value) (w : World) : (callFunc 66 args).run Tryz.prog w = .ok (.enter 66 args) w := by go_simp
theorem call67_ (args : Array Value) (w : World) : (callFunc 67 args).run Tryz.prog w = .ok (.enter 67 args) w := by go_simp
theorem call71_ (args : Array Value) (w : World) : (callFunc 71 args).run Tryz.prog w = .ok (.enter 71 args) w := by go_simp
theorem y_load74 {w : World} {s : Sec} (ho : o.op = .load 74 x) (hx : a.eval x = .pointer (some ⟨g, off, none⟩)) (hs : s.length = 512) (hr : w.rangeAt g off (bv s)) : (execOp a.eval o).run Tryz.prog w = .ok (.value (.agg (bv s).toArray)) w := by
  unfold execOp
  simp only [ho, hx, Instr.loadAt, Instr.sureAddr, Sem.run_bind, Sem.run_pure, Result.andThen_ok, run_loadVar_mid w g off 74 (bv s) _ hr Tryz.underlying74 rfl (size74 s hs)]
theorem y_load67 {w : World} {m : Meta} (ho : o.op = .load 67 x) (hx : a.eval x = .pointer (some ⟨g, off, none⟩)) (hr : w.rangeAt g off m.vs) : (execOp a.eval o).run Tryz.prog w = .ok (.value m.v) w := by
  unfold execOp
  simp only [ho, hx, Instr.loadAt, Instr.sureAddr, Sem.run_bind, Sem.run_pure, Result.andThen_ok, run_loadVar_mid w g off 67 m.vs _ hr Tryz.underlying67 rfl (by kernel_rfl)]
  rfl
theorem y_arr74 (w : World) {c : Nat} (ho : o.op = .sliceToArrayPointer 74 x) (hx : a.eval x = .slice (some ⟨g, off, none⟩) 512 c) : (execOp a.eval o).run Tryz.prog w = .ok (.value (.pointer (some ⟨g, off, none⟩))) w := by
  unfold execOp
  simp only [ho, hx]
  have : (Instr.arrayAt 74 (.slice (some ⟨g, off, none⟩) 512 c)).run Tryz.prog w = .ok (.pointer (some ⟨g, off, none⟩)) w := by simp [Instr.arrayAt, run_underlying Tryz.underlying74]
  go_simp
theorem y_zero74 (w : World) (ho : o.op = .build 74 #[]) : (execOp a.eval o).run Tryz.prog w = .ok (.value (.agg (bv zs).toArray)) w := by
  rw [← zbv74]
  exact yields_build w a o 74 #[] ho Tryz.zeroCells74 (by kernel_rfl)
theorem y_slice74 (w : World) {lo hi : Nat} (h1 : lo ≤ hi) (h2 : hi ≤ 512) (h3 : lo < 512) {l h : Operand} (ho : o.op = .slice 74 x (some l) (some h) none) (hx : a.eval x = .pointer (some ⟨g, 0, none⟩)) (hl : a.eval l = .int .i64 (lo : Int)) (hh : a.eval h = .int .i64 (hi : Int)) : (execOp a.eval o).run Tryz.prog w = .ok (.value (.slice (some ⟨g, lo, none⟩) (hi - lo) (512 - lo))) w := by
  unfold execOp
  simp only [ho, Sem.run_bind, Option.map_some, Option.map_none, hx, hl, hh, slice74 g lo hi h1 h2 h3 w, Result.andThen_ok, Sem.run_pure]
theorem y_slice74_4 (w : World) {h : Operand} (ho : o.op = .slice 74 x none (some h) none) (hx : a.eval x = .pointer (some ⟨g, 0, none⟩)) (hh : a.eval h = .int .i64 4) : (execOp a.eval o).run Tryz.prog w = .ok (.value (.slice (some ⟨g, 0, none⟩) 4 512)) w := by
  have hs : (Tryz.prog.info? 5).map (·.size) = some 1 := info5s
  unfold execOp
  simp only [ho, Sem.run_bind, Option.map_some, Option.map_none, hx, hh]
  go_simp
theorem y_all74 (w : World) (ho : o.op = .slice 74 x none none none) (hx : a.eval x = .pointer (some ⟨g, 0, none⟩)) : (execOp a.eval o).run Tryz.prog w = .ok (.value (.slice (some ⟨g, 0, none⟩) 512 512)) w := by
  unfold execOp
  simp only [ho, Sem.run_bind, Option.map_none, hx, slice74_all w g, Result.andThen_ok, Sem.run_pure]
theorem y_len70 {w : World} {b : Nat} {l : List (Nat × Bool)} (ho : o.op = .call { callee := .builtin .len, args := #[x], argTypes := #[70] }) (hx : a.eval x = .map (some b)) (h : Mp mkE w b l) : (execOp a.eval o).run Tryz.prog w = .ok (.value (.int .i64 (l.length : Int))) w := by
  unfold execOp
  simp only [ho, resolve, invoke, builtin, Sem.run_bind, Sem.run_pure, Result.andThen_ok, List.map_toArray, List.map_cons, List.map_nil, hx, h.len under70]
theorem wp_update69 {w : World} {b n : Nat} {l : List (Nat × Sec)} {s : Sec} {K : Act → World → Prop} {Q : Exit → Act → World → Prop} (ho : o.op = .mapUpdate 69 x y z) (hx : a.eval x = .map (some b)) (hy : a.eval y = .int .i64 (n : Int)) (hz : a.eval z = .agg (bv s).toArray) (h : Mp pgE w b l) (hm : l.length < 1000000) (hn : n ≤ 100000000000)
    (hK : ∀ w', Mp pgE w' b (ins n s l) → Only (fun k => k = b) w w' → K (a.put o.dst undef) w') : o.wp Tryz.prog a w K Q := by
  obtain ⟨w', h1, h2, h3⟩ := h.update under69 hm hn s
  change (Instr.mapUpdate 69 (.map (some b)) (.int .i64 (n : Int)) (.agg (bv s).toArray)).run Tryz.prog w = _ at h1
  unfold Oper.wp execOp
  simp only [ho, hx, hy, hz, Sem.run_bind, h1, Result.andThen_ok, Sem.run_pure]
  exact hK _ h2 h3
theorem wp_entry69 {w : World} {b n : Nat} {l : List (Nat × Sec)} {K : Act → World → Prop} {Q : Exit → Act → World → Prop} (ho : o.op = .mapEntry 69 x y) (hx : a.eval x = .map (some b)) (hy : a.eval y = .int .i64 (n : Int)) (h : Mp pgE w b l) (hm : l.length < 1000000) (hn : n ≤ 100000000000)
    (hK : ∀ v0 st w', Half pgE 69 w' b st n l → Only (fun k => k = b) w w' → K (a.put o.dst (.tuple #[v0, goInt st])) w') : o.wp Tryz.prog a w K Q := by
  obtain ⟨v0, st, w', h1, h2, h3⟩ := h.entry under69 zeroP hm hn
  unfold Oper.wp execOp
  simp only [ho, hx, hy, Sem.run_bind, h1, Result.andThen_ok, Sem.run_pure]
  exact hK _ _ _ h2 h3
theorem wp_estore69 {w : World} {b n st : Nat} {l : List (Nat × Sec)} {s : Sec} {K : Act → World → Prop} {Q : Exit → Act → World → Prop} (ho : o.op = .entryStore 69 x y z) (hx : a.eval x = .map (some b)) (hy : a.eval y = goInt st) (hz : a.eval z = .agg (bv s).toArray) (h : Half pgE 69 w b st n l)
    (hK : ∀ w', Mp pgE w' b (ins n s l) → Only (fun k => k = b) w w' → K (a.put o.dst undef) w') : o.wp Tryz.prog a w K Q := by
  obtain ⟨w', h1, h2, h3⟩ := h.store s
  change (Instr.entryStore 69 (.map (some b)) (goInt st) (.agg (bv s).toArray)).run Tryz.prog w = _ at h1
  unfold Oper.wp execOp
  simp only [ho, hx, hy, hz, Sem.run_bind, h1, Result.andThen_ok, Sem.run_pure]
  exact hK _ h2 h3
theorem wp_entry70 {w : World} {b n : Nat} {l : List (Nat × Bool)} {K : Act → World → Prop} {Q : Exit → Act → World → Prop} (ho : o.op = .mapEntry 70 x y) (hx : a.eval x = .map (some b)) (hy : a.eval y = .int .i64 (n : Int)) (h : Mp mkE w b l) (hm : l.length < 1000000) (hn : n ≤ 100000000000)
    (hK : ∀ v0 st w', Half mkE 70 w' b st n l → Only (fun k => k = b) w w' → K (a.put o.dst (.tuple #[v0, goInt st])) w') : o.wp Tryz.prog a w K Q := by
  obtain ⟨v0, st, w', h1, h2, h3⟩ := h.entry under70 zeroB hm hn
  unfold Oper.wp execOp
  simp only [ho, hx, hy, Sem.run_bind, h1, Result.andThen_ok, Sem.run_pure]
  exact hK _ _ _ h2 h3
theorem wp_estore70 {w : World} {b n st : Nat} {l : List (Nat × Bool)} {s : Bool} {K : Act → World → Prop} {Q : Exit → Act → World → Prop} (ho : o.op = .entryStore 70 x y z) (hx : a.eval x = .map (some b)) (hy : a.eval y = goInt st) (hz : a.eval z = .bool s) (h : Half mkE 70 w b st n l)
    (hK : ∀ w', Mp mkE w' b (ins n s l) → Only (fun k => k = b) w w' → K (a.put o.dst undef) w') : o.wp Tryz.prog a w K Q := by
  obtain ⟨w', h1, h2, h3⟩ := h.store s
  change (Instr.entryStore 70 (.map (some b)) (goInt st) (.bool s)).run Tryz.prog w = _ at h1
  unfold Oper.wp execOp
  simp only [ho, hx, hy, hz, Sem.run_bind, h1, Result.andThen_ok, Sem.run_pure]
  exact hK _ h2 h3
theorem wp_set3 {w : World} {K : Act → World → Prop} {Q : Exit → Act → World → Prop} {p : Int} (ho : o.op = .store 3 x y) (hx : a.eval x = .pointer (some ⟨g, off, none⟩)) (hy : a.eval y = .int .i64 p) (hc : (w.cell? ⟨g, off, none⟩).isSome = true) (hf : w.frozen? ⟨g, off, none⟩ = false)
    (hK : K (a.put o.dst undef) (w.setCell ⟨g, off, none⟩ (.int .i64 p))) : o.wp Tryz.prog a w K Q := by
  obtain ⟨u, hu⟩ := Option.isSome_iff_exists.1 hc
  unfold Oper.wp
  simp only [execOp, ho, hx, hy]
  go_simp
  exact hK
theorem wp_setR {w : World} {X : Nat} {us : List Value} {K : Act → World → Prop} {Q : Exit → Act → World → Prop} {p : Int} (ho : o.op = .store 3 x y) (hx : a.eval x = .pointer (some ⟨X, off, none⟩)) (hy : a.eval y = .int .i64 p) (hc : CellsR w X us) (hlt : off < us.length)
    (hK : ∀ w', CellsR w' X (us.set off (.int .i64 p)) → Only (fun k => k = X) w w' → K (a.put o.dst undef) w') : o.wp Tryz.prog a w K Q :=
  wp_set3 ho hx hy (by rw [hc.is off _ (List.getElem?_eq_getElem hlt)]; rfl) (hc.thaw off) (hK _ (hc.set hlt _) ((Only.refl (fun k => k = X) w).setCell (p := ⟨X, off, none⟩) rfl _))
end
end Go.Proofs.YteoeaojebklfjaaGreatDoor
