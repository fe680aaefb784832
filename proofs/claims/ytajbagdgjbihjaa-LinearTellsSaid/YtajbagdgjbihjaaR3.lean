/- What single operations yield: rows of numbers, plans. A plan is played: the state of the first loop. -/
import Derived.Test.YtajbagdgjbihjaaR2
import Derived.Test.YtajbagdgjbihjaaMA
import Derived.Test.YtajbagdgjbihjaaI1
import Derived.Laws.OwnMore
namespace Go.Proofs.Ytajbagdgjbihjaa
open Go.RowKit Go.Maps
set_option linter.unusedVariables false

theorem info73 : Try.prog.info? 73 = some Try.t73 := by kernel_rfl
theorem t73_size : Try.t73.size = 11 := by kernel_rfl
theorem under54 : Try.prog.underlying 54 = some (.slice 3) := by kernel_rfl
theorem info3 : Try.prog.info? 3 = some Try.t3 := by kernel_rfl
theorem t3_zero : Try.t3.zero = some (.int .i64 0) := by kernel_rfl
theorem t3_size : Try.t3.size = 1 := by kernel_rfl
theorem t3_bytes : Try.t3.bytes = 8 := by kernel_rfl
theorem under74 : Try.prog.underlying 74 = some (.slice 29) := by kernel_rfl
theorem info29 : Try.prog.info? 29 = some Try.t29 := by kernel_rfl
theorem t29_zero : Try.t29.zero = some (Rs.zero.v) := by kernel_rfl
theorem t29_size : Try.t29.size = 3 := by kernel_rfl
theorem t29_bytes : Try.t29.bytes ≤ 100 := by decide
section
variable {a : Act} {o : Oper} {x y : Operand}
theorem run_ix50 (w : World) {g off n c j : Nat} (h : j < n) : (Instr.indexAt 50 (.slice (some ⟨g, off, none⟩) n c) (.int .i64 (j : Int))).run Try.prog w = .ok (.pointer (some ⟨g, off + j * 11, none⟩)) w := by
  have b1 : (0 : Int) ≤ (j : Int) := by omega
  have b2 : (j : Int) < (n : Int) := by omega
  have hs : (Try.prog.info? 73).map (·.size) = some 11 := by rw [info73]; rfl
  go_simp
theorem y_ix50 (w : World) {g off n c j : Nat} (ho : o.op = .indexAddr 50 x y) (hx : a.eval x = .slice (some ⟨g, off, none⟩) n c) (hy : a.eval y = .int .i64 (j : Int)) (h : j < n) : (execOp a.eval o).run Try.prog w = .ok (.value (.pointer (some ⟨g, off + j * 11, none⟩))) w := by
  unfold execOp
  simp only [ho, Sem.run_bind, hx, hy, run_ix50 w h, Result.andThen_ok, Sem.run_pure]
theorem run_ix54 (w : World) {g off n c j : Nat} (h : j < n) : (Instr.indexAt 54 (.slice (some ⟨g, off, none⟩) n c) (.int .i64 (j : Int))).run Try.prog w = .ok (.pointer (some ⟨g, off + j, none⟩)) w := by
  have b1 : (0 : Int) ≤ (j : Int) := by omega
  have b2 : (j : Int) < (n : Int) := by omega
  have hs : (Try.prog.info? 3).map (·.size) = some 1 := by rw [info3]; rfl
  go_simp
theorem y_ix54 (w : World) {g off n c j : Nat} (ho : o.op = .indexAddr 54 x y) (hx : a.eval x = .slice (some ⟨g, off, none⟩) n c) (hy : a.eval y = .int .i64 (j : Int)) (h : j < n) : (execOp a.eval o).run Try.prog w = .ok (.value (.pointer (some ⟨g, off + j, none⟩))) w := by
  unfold execOp
  simp only [ho, Sem.run_bind, hx, hy, run_ix54 w h, Result.andThen_ok, Sem.run_pure]
theorem run_ix74 (w : World) {g off n c j : Nat} (h : j < n) : (Instr.indexAt 74 (.slice (some ⟨g, off, none⟩) n c) (.int .i64 (j : Int))).run Try.prog w = .ok (.pointer (some ⟨g, off + j * 3, none⟩)) w := by
  have b1 : (0 : Int) ≤ (j : Int) := by omega
  have b2 : (j : Int) < (n : Int) := by omega
  have hs : (Try.prog.info? 29).map (·.size) = some 3 := by rw [info29]; rfl
  go_simp
theorem y_ix74 (w : World) {g off n c j : Nat} (ho : o.op = .indexAddr 74 x y) (hx : a.eval x = .slice (some ⟨g, off, none⟩) n c) (hy : a.eval y = .int .i64 (j : Int)) (h : j < n) : (execOp a.eval o).run Try.prog w = .ok (.value (.pointer (some ⟨g, off + j * 3, none⟩))) w := by
  unfold execOp
  simp only [ho, Sem.run_bind, hx, hy, run_ix74 w h, Result.andThen_ok, Sem.run_pure]
theorem y_fld73 (w : World) {k d : Nat} {g off : Nat} (ho : o.op = .fieldAddr 73 x k) (hx : a.eval x = .pointer (some ⟨g, off, none⟩)) (hk : (k, d) ∈ [(0, 0), (1, 1), (2, 2), (3, 3), (4, 4), (5, 5), (6, 6)]) : (execOp a.eval o).run Try.prog w = .ok (.value (.pointer (some ⟨g, off + d, none⟩))) w := by
  simp only [List.mem_cons, List.not_mem_nil, or_false, Prod.mk.injEq] at hk
  rcases hk with ⟨rfl, rfl⟩ | ⟨rfl, rfl⟩ | ⟨rfl, rfl⟩ | ⟨rfl, rfl⟩ | ⟨rfl, rfl⟩ | ⟨rfl, rfl⟩ | ⟨rfl, rfl⟩
  all_goals
    unfold execOp
    simp only [ho, hx]
    go_simp
theorem y_load3 {w : World} {g off : Nat} {z : Int} (ho : o.op = .load 3 x) (hx : a.eval x = .pointer (some ⟨g, off, none⟩)) (hc : w.cell? ⟨g, off, none⟩ = some (.int .i64 z)) : (execOp a.eval o).run Try.prog w = .ok (.value (.int .i64 z)) w := by
  unfold execOp
  simp only [ho, hx]
  go_simp
theorem y_load24' {w : World} {g off : Nat} {p : Op5} (ho : o.op = .load 24 x) (hx : a.eval x = .pointer (some ⟨g, off, none⟩)) (hc : ∀ i u, p.row[i]? = some u → w.cell? ⟨g, off + i, none⟩ = some u) : (execOp a.eval o).run Try.prog w = .ok (.value p.v) w := by
  obtain ⟨k, key, val, old, had⟩ := p
  have c0 := hc 0 _ rfl
  have c1 := hc 1 _ rfl
  have c2 := hc 2 _ rfl
  have c3 := hc 3 _ rfl
  have c4 := hc 4 _ rfl
  rw [Nat.add_zero] at c0
  unfold execOp
  simp only [ho, hx, Op5.v]
  go_simp
theorem y_load29' {w : World} {g off : Nat} {p : Rs} (ho : o.op = .load 29 x) (hx : a.eval x = .pointer (some ⟨g, off, none⟩)) (hc : ∀ i u, p.row[i]? = some u → w.cell? ⟨g, off + i, none⟩ = some u) : (execOp a.eval o).run Try.prog w = .ok (.value p.v) w := by
  obtain ⟨k, f, v⟩ := p
  have c0 := hc 0 _ rfl
  have c1 := hc 1 _ rfl
  have c2 := hc 2 _ rfl
  rw [Nat.add_zero] at c0
  unfold execOp
  simp only [ho, hx, Rs.v]
  go_simp
theorem u64_wrap (p : Int) : IntKind.u64.wrap p = p % 18446744073709551616 := by simp [IntKind.wrap, IntKind.signed, IntKind.bits]
theorem y_conv_u (w : World) {p : Int} {m : Nat} (ho : o.op = .convert 3 52 x) (hx : a.eval x = .int .i64 p) (hm : m = (p % 18446744073709551616).toNat) : (execOp a.eval o).run Try.prog w = .ok (.value (.int .u64 (m : Int))) w := by
  have h' : IntKind.u64.wrap p = (m : Int) := by rw [u64_wrap]; omega
  clear hm
  unfold execOp
  simp only [ho, hx]
  go_simp
theorem y_rem (w : World) {m k : Nat} (ho : o.op = .binOp .rem 52 x y 52) (hx : a.eval x = .int .u64 (m : Int)) (hy : a.eval y = .int .u64 (k : Int)) (hk : 0 < k) (hm : m < 18446744073709551616) : (execOp a.eval o).run Try.prog w = .ok (.value (.int .u64 ((m % k : Nat) : Int))) w := by
  have h0 : ¬ k = 0 := by omega
  have h1 : ¬ (k : Int) = 0 := by omega
  have h2 : Int.tmod (m : Int) (k : Int) = ((m % k : Nat) : Int) := by simp [Int.tmod]
  have h3 : IntKind.u64.wrap ((m % k : Nat) : Int) = ((m % k : Nat) : Int) := by
    rw [u64_wrap]
    have : m % k ≤ m := Nat.mod_le _ _
    omega
  unfold execOp
  simp only [ho, hx, hy]
  go_simp
theorem y_conv_i (w : World) {m : Nat} (ho : o.op = .convert 52 3 x) (hx : a.eval x = .int .u64 (m : Int)) (hm : m < 9223372036854775808) : (execOp a.eval o).run Try.prog w = .ok (.value (.int .i64 (m : Int))) w := by
  have h3 : IntKind.i64.wrap (m : Int) = (m : Int) := by rw [IntKind.wrap_i64]; omega
  unfold execOp
  simp only [ho, hx]
  go_simp
theorem wp_store3 {w : World} {K : Act → World → Prop} {Q : Exit → Act → World → Prop} {g off : Nat} {z : Int} {u : Value} (ho : o.op = .store 3 x y) (hx : a.eval x = .pointer (some ⟨g, off, none⟩)) (hy : a.eval y = .int .i64 z) (hc : w.cell? ⟨g, off, none⟩ = some u) (hf : w.frozen? ⟨g, off, none⟩ = false)
    (h : K (a.put o.dst undef) (w.setCell ⟨g, off, none⟩ (.int .i64 z))) : o.wp Try.prog a w K Q := by
  unfold Oper.wp execOp
  simp only [ho, hx, hy]
  go_simp
  exact h
end
/-! ### rows of numbers -/
def rowF (n : Nat) (f : Nat → Int) : List Value := (List.range n).map fun k => Value.int .i64 (f k)
def upd (f : Nat → Int) (i : Nat) (x : Int) : Nat → Int := fun k => if k = i then x else f k
theorem rowF_len (n : Nat) (f : Nat → Int) : (rowF n f).length = n := by simp [rowF]
theorem rowF_at {n k : Nat} (h : k < n) (f : Nat → Int) : (rowF n f)[k]? = some (.int .i64 (f k)) := by
  unfold rowF
  rw [List.getElem?_map, List.getElem?_range h]; rfl
theorem rowF_set {n i : Nat} (f : Nat → Int) (x : Int) : (rowF n f).set i (.int .i64 x) = rowF n (upd f i x) := by
  refine List.ext_getElem? fun k => ?_
  by_cases hk : k < n
  · rw [rowF_at hk]
    by_cases e : i = k
    · subst e
      rw [List.getElem?_set_self (by rw [rowF_len]; exact hk)]
      unfold upd
      rw [if_pos rfl]
    · rw [List.getElem?_set_ne e, rowF_at hk]
      unfold upd
      rw [if_neg fun e' => e e'.symm]
  · rw [List.getElem?_eq_none (by rw [List.length_set, rowF_len]; omega), List.getElem?_eq_none (by rw [rowF_len]; omega)]
section
variable {w wr w1 : World} {g n i : Nat} {f : Nat → Int}
theorem Vec.num (h : Vec w 1 (.slice (some ⟨g, 0, none⟩) n n) n (rowF n f)) (hi : i < n) : w.cell? ⟨g, 0 + i, none⟩ = some (.int .i64 (f i)) ∧ w.frozen? ⟨g, 0 + i, none⟩ = false := by
  obtain ⟨g', off, c, e, _, _, _, h4, h5⟩ := h.at_ (by omega)
  cases e
  exact ⟨h4 i _ (rowF_at hi f), (h5 i (by omega)).2⟩
theorem Vec.numSet (h : Vec w 1 (.slice (some ⟨g, 0, none⟩) n n) n (rowF n f)) (hi : i < n) (x : Int) : Vec (w.setCell ⟨g, 0 + i, none⟩ (.int .i64 x)) 1 (.slice (some ⟨g, 0, none⟩) n n) n (rowF n (upd f i x)) := by
  rw [Nat.zero_add, ← rowF_set]
  exact h.set1 hi _
end
theorem make54 (n : Nat) (w : World) (hn : n ≤ 1000) : ∃ w', (Instr.makeSlice 54 (.int .i64 (n : Int)) (.int .i64 (n : Int))).run Try.prog w = .ok (.slice (some ⟨w.heap.size, 0, none⟩) n n) w' ∧ Vec w' 1 (.slice (some ⟨w.heap.size, 0, none⟩) n n) n (rowF n fun _ => 0) ∧ Only None' w w' ∧ w.heap.size < w'.heap.size := by
  obtain ⟨w', hrun, r1, r2⟩ := run_make_full (P := Try.prog) w w.heap.size 54 3 Try.t3 (.int .i64 0) 1 under54 info3 t3_zero t3_size .i64 .i64 n (by rw [t3_bytes]; omega) (by unfold maxLen; omega) (Nat.le_refl _)
  have hv := Vec.of_owns r1
  rw [show (Value.int .i64 0).cells = #[.int .i64 0] from rfl, toList_madeCells_one, Nat.mul_one] at hv
  have e : rowF n (fun _ => 0) = List.replicate n (Value.int .i64 0) := by
    unfold rowF
    rw [List.map_const', List.length_range]
  rw [e]
  refine ⟨w', hrun, hv, (Only.refl None' w).grown r2 (by simp), ?_⟩
  rcases hv.form with ⟨e, _⟩ | ⟨g, off, cap, e, _, _, hl, _⟩
  · cases e
  · cases e
    exact hl
end Go.Proofs.Ytajbagdgjbihjaa
