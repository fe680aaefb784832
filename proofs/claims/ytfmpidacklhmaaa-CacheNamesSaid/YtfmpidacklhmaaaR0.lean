/- append of a row that may be read, nobody's row too. No program. -/
import Derived.Test.YtfmpidacklhmaaaK1
namespace Go.Proofs.Ytfmpidacklhmaaa
open Go.RowKit
set_option linter.unusedVariables false

section
variable {P : Program} (w : World)
theorem run_append_nil (t ty e : TypeId) (i : TypeInfo) (ht : P.underlying t = some (.slice e)) (hi : P.info? e = some i) (a : Addr) (n cap : Nat) (h : n ≤ cap) :
    (Builtin.append_ #[t, t] ty #[.slice (some a) n cap, .slice none 0 0]).run P w = .ok (.slice (some a) n cap) w := by
  simp [Builtin.append_, run_underlying ht, sizeOf, typeInfo, hi, Builtin.lenOf, h, Builtin.firstCells, storeCells, loadCells]

theorem run_append_rd (t ty e : TypeId) (i : TypeInfo) (z : Value) (size bytes : Nat) (ht : P.underlying t = some (.slice e)) (hi : P.info? e = some i) (hz : i.zero = some z)
    (hsize : i.size = size) (hby : i.bytes = bytes) (hzs : z.cells.size = size) (hsz : 0 < size)
    (a0 : Addr) (n cap : Nat) (xs : List Value) (hv : Vec w size (.slice (some a0) n cap) n xs) (v : Value) (m : Nat) (news : List Value) (hr : Rd w size v m news) (h1 : ∀ u ∈ news, u.oneCell' = true)
    (h63 : n + m ≤ maxLen) (hbytes : (n + m) * bytes ≤ 140737488355328) :
    ∃ v' w', (Builtin.append_ #[t, t] ty #[.slice (some a0) n cap, v]).run P w = .ok v' w' ∧ Vec w' size v' (n + m) (xs ++ news) ∧ w.grownBy w' (Value.slice (some a0) n cap).ownBlock ∧ (∀ k, v'.ownBlock = some k → (Value.slice (some a0) n cap).ownBlock = some k ∨ w.heap.size ≤ k) := by
  rcases hr.form with ⟨rfl, rfl⟩ | ⟨ad, c, rfl, _, _, hc⟩
  · have hx : news = [] := List.eq_nil_of_length_eq_zero (by simpa using hr.len)
    subst hx
    obtain ⟨a, c, e', hle, _⟩ := hv.shape
    injection e' with _ _ e3
    subst e3
    refine ⟨_, _, run_append_nil w t ty e i ht hi a0 n cap hle, by simpa using hv, ⟨rfl, rfl, rfl, Nat.le_refl _, fun _ _ _ => rfl⟩, fun k hk => .inl hk⟩
  · exact run_vec_append w t ty e i z size bytes ht hi hz hsize hby hzs hsz _ n xs hv ad m c news hr.len hc h1 h63 hbytes

theorem wpList_append_rd {ops : Array Oper} {rest : List Oper} {o : Oper} {a : Act} {Q : Exit → Act → World → Prop} (hgd : o.guard = none) (s x : Operand) (t : TypeId)
    (ho : o.op = .call { callee := .builtin .append, args := #[s, x], argTypes := #[t, t] })
    (e : TypeId) (i : TypeInfo) (z : Value) (size bytes : Nat) (ht : P.underlying t = some (.slice e)) (hi : P.info? e = some i) (hz : i.zero = some z)
    (hsize : i.size = size) (hby : i.bytes = bytes) (hzs : z.cells.size = size) (hsz : 0 < size)
    (a0 : Addr) (n cap : Nat) (xs : List Value) (hs : a.eval s = .slice (some a0) n cap) (hv : Vec w size (.slice (some a0) n cap) n xs)
    (v : Value) (m : Nat) (news : List Value) (hx : a.eval x = v) (hr : Rd w size v m news) (h1 : ∀ u ∈ news, u.oneCell' = true)
    (h63 : n + m ≤ maxLen) (hbytes : (n + m) * bytes ≤ 140737488355328)
    (h : ∀ v' w', Vec w' size v' (n + m) (xs ++ news) → w.grownBy w' (Value.slice (some a0) n cap).ownBlock → (∀ k, v'.ownBlock = some k → (Value.slice (some a0) n cap).ownBlock = some k ∨ w.heap.size ≤ k) → wpList P ops Q rest (a.put o.dst v') w') : wpList P ops Q (o :: rest) a w :=
  wpList_plain hgd fun K hK => by
    obtain ⟨v', w', hrun, h2, h3, h4⟩ := run_append_rd (P := P) w t o.type e i z size bytes ht hi hz hsize hby hzs hsz a0 n cap xs hv v m news hr h1 h63 hbytes
    unfold Oper.wp execOp
    simp only [ho, resolve, invoke, builtin, Sem.run_bind, Sem.run_pure, Result.andThen_ok, List.map_toArray, List.map_cons, List.map_nil, hs, hx, hrun]
    exact hK _ _ (h v' w' h2 h3 h4)
end

/-- an append to a fresh empty row: a row of its own -/
structure Fresh (w w' : World) (size : Nat) (v' : Value) (n : Nat) (xs : List Value) : Prop where
  vec : Vec w' size v' n xs
  fresh : ∀ k, v'.ownBlock = some k → w.heap.size ≤ k
  only : Only None' w w'
theorem fresh_of {w w1 : World} {size n : Nat} {v' : Value} {xs : List Value} {o : Obj} (hv : Vec w1 size v' (0 + n) ([] ++ xs)) (hg : (w.alloc o).grownBy w1 (some w.heap.size)) (hf : ∀ k, v'.ownBlock = some k → some w.heap.size = some k ∨ (w.alloc o).heap.size ≤ k) : Fresh w w1 size v' n xs := by
  rw [Nat.zero_add, List.nil_append] at hv
  refine ⟨hv, fun k hk => ?_, Only.of_below (((Below.refl _ w).alloc (Nat.le_refl _) o).grown hg (by simp) (by intro k hk; injection hk with hk; omega)) _⟩
  rcases hf k hk with h | h
  · injection h with h; omega
  · simp at h; omega
theorem empty_row (w : World) (e : TypeId) (size : Nat) : Vec (w.alloc (.cells #[] e)) size (.slice (some ⟨w.heap.size, 0, none⟩) 0 0) 0 [] :=
  ⟨by simp, .inr ⟨w.heap.size, 0, 0, rfl, Nat.le_refl _, Nat.zero_le _, by simp, fun j u hu => by simp at hu, fun j hj => by omega⟩⟩

end Go.Proofs.Ytfmpidacklhmaaa
