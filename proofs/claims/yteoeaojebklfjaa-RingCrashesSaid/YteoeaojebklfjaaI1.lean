/- Lists of records in a world; appends of any row to any row. No program. -/
import Derived.Test.YteoeaojebklfjaaR0
import Derived.Test.YteoeaojebklfjaaD0
namespace Go.Proofs.Yteoeaojebklfjaa
open Go.RowKit
set_option linter.unusedVariables false

/-- records: each a row of bytes; all blocks are P's; none of a record is the list's own -/
structure Recs (w : World) (P : Nat → Prop) (v : Value) (rs : List (List UInt8)) : Prop where
  own : ∀ k, v.ownBlock = some k → P k
  rows : ∃ xs : List Value, Vec w 1 v rs.length xs ∧ ∀ (j : Nat) (hj : j < rs.length), ∃ x, xs[j]? = some x ∧ Vec w 1 x rs[j].length (bv rs[j]) ∧ ∀ k, x.ownBlock = some k → P k ∧ v.ownBlock ≠ some k

section
variable {w w' : World} {P P' S : Nat → Prop} {v : Value} {rs : List (List UInt8)}
theorem Recs.nil (w : World) (P : Nat → Prop) : Recs w P (.slice none 0 0) [] :=
  ⟨fun k hk => (by cases hk), ⟨[], Vec.nil w 1, fun j hj => absurd hj (by simp)⟩⟩
theorem Recs.mono (h : Recs w P v rs) (hp : ∀ k, k < w.heap.size → P k → P' k) : Recs w P' v rs := by
  obtain ⟨h1, xs, h2, h3⟩ := h
  refine ⟨fun k hk => hp k (h2.lt hk) (h1 k hk), xs, h2, fun j hj => ?_⟩
  obtain ⟨x, a, b, c⟩ := h3 j hj
  exact ⟨x, a, b, fun k hk => ⟨hp k (b.lt hk) (c k hk).1, (c k hk).2⟩⟩
theorem Recs.only (h : Recs w P v rs) (o : Only S w w') (hn : ∀ k, P k → ¬ S k) : Recs w' P v rs := by
  obtain ⟨h1, xs, h2, h3⟩ := h
  refine ⟨h1, xs, h2.only o fun k hk => hn k (h1 k hk), fun j hj => ?_⟩
  obtain ⟨x, a, b, c⟩ := h3 j hj
  exact ⟨x, a, b.only o fun k hk => hn k (c k hk).1, c⟩
theorem Recs.shape (h : Recs w P v rs) : ∃ a c, v = .slice a rs.length c := by
  obtain ⟨_, xs, h2, _⟩ := h
  obtain ⟨a, c, e, _⟩ := h2.shape
  exact ⟨a, c, e⟩
theorem Recs.size (h : Recs w P v rs) : rs.length ≤ maxLen := by
  obtain ⟨_, xs, h2, _⟩ := h
  obtain ⟨a, c, e, h3, h4⟩ := h2.shape
  omega
/-- a record more: behind an append of it -/
theorem Recs.push {xs : List Value} {x v' : Value} {r : List UInt8} (h1 : ∀ k, v.ownBlock = some k → P k) (h3 : ∀ (j : Nat) (hj : j < rs.length), ∃ x, xs[j]? = some x ∧ Vec w 1 x rs[j].length (bv rs[j]) ∧ ∀ k, x.ownBlock = some k → P k ∧ v.ownBlock ≠ some k)
    (hv : Vec w' 1 v' (rs.length + 1) (xs ++ [x])) (hl : xs.length = rs.length) (hg : w.grownBy w' v.ownBlock) (hf : ∀ k, v'.ownBlock = some k → v.ownBlock = some k ∨ w.heap.size ≤ k) (hx : Vec w 1 x r.length (bv r)) (hxp : ∀ k, x.ownBlock = some k → P k ∧ v.ownBlock ≠ some k)
    (hnew : ∀ k, w.heap.size ≤ k → P k) : Recs w' P v' (rs ++ [r]) := by
  have o : Only (fun k => v.ownBlock = some k) w w' := (Only.refl _ w).grown hg fun k hk => hk
  have far : ∀ y : Value, (∀ k, y.ownBlock = some k → k < w.heap.size) → (∀ k, y.ownBlock = some k → v.ownBlock ≠ some k) → ∀ k, y.ownBlock = some k → v'.ownBlock ≠ some k := fun y hlt hne k hk e => by
    rcases hf k e with h | h
    · exact hne k hk h
    · have := hlt k hk; omega
  refine ⟨fun k hk => (hf k hk).elim (h1 k) (hnew k), xs ++ [x], by rw [List.length_append, List.length_singleton]; exact hv, fun j hj => ?_⟩
  by_cases hjl : j < rs.length
  · obtain ⟨y, a, b, c⟩ := h3 j hjl
    refine ⟨y, by rw [List.getElem?_append_left (by omega)]; exact a, ?_, fun k hk => ⟨(c k hk).1, far y (fun k hk => b.lt hk) (fun k hk => (c k hk).2) k hk⟩⟩
    rw [List.getElem_append_left hjl]
    exact b.only o fun k hk e => (c k hk).2 e
  · have hjj : j = rs.length := by simp at hj; omega
    subst hjj
    refine ⟨x, by rw [List.getElem?_append_right (by omega), hl, Nat.sub_self]; rfl, ?_, fun k hk => ⟨(hxp k hk).1, far x (fun k hk => hx.lt hk) (fun k hk => (hxp k hk).2) k hk⟩⟩
    have e : (rs ++ [r])[rs.length] = r := by simp
    rw [e]
    exact hx.only o fun k hk e => (hxp k hk).2 e
end

section
variable {P : Program} {w : World}
theorem run_append_nils (t ty e : TypeId) (i : TypeInfo) (ht : P.underlying t = some (.slice e)) (hi : P.info? e = some i) :
    (Builtin.append_ #[t, t] ty #[.slice none 0 0, .slice none 0 0]).run P w = .ok (.slice none 0 0) w := by
  simp [Builtin.append_, run_underlying ht, sizeOf, typeInfo, hi, Builtin.lenOf, Builtin.firstCells]
/-- any row, behind any row -/
theorem run_append_any (t ty e : TypeId) (i : TypeInfo) (z : Value) (size bytes : Nat) (ht : P.underlying t = some (.slice e)) (hi : P.info? e = some i) (hz : i.zero = some z)
    (hsize : i.size = size) (hby : i.bytes = bytes) (hzs : z.cells.size = size) (hsz : 0 < size)
    (v1 : Value) (n : Nat) (xs : List Value) (hv : Vec w size v1 n xs) (v : Value) (m : Nat) (news : List Value) (hr : Rd w size v m news) (h1 : ∀ u ∈ news, u.oneCell' = true)
    (h63 : n + m ≤ maxLen) (hbytes : (n + m) * bytes ≤ 140737488355328) :
    ∃ v' w', (Builtin.append_ #[t, t] ty #[v1, v]).run P w = .ok v' w' ∧ Vec w' size v' (n + m) (xs ++ news) ∧ w.grownBy w' v1.ownBlock ∧ (∀ k, v'.ownBlock = some k → v1.ownBlock = some k ∨ w.heap.size ≤ k) := by
  rcases hr.form with ⟨rfl, rfl⟩ | ⟨ad, c, rfl, _, _, hc⟩
  · have hx : news = [] := List.eq_nil_of_length_eq_zero (by simpa using hr.len)
    subst hx
    rcases hv.form with ⟨rfl, rfl⟩ | ⟨g, off, cap, rfl, hle, _⟩
    · refine ⟨_, _, run_append_nils t ty e i ht hi, by simpa using hv, ⟨rfl, rfl, rfl, Nat.le_refl _, fun _ _ _ => rfl⟩, fun k hk => .inl hk⟩
    · refine ⟨_, _, run_append_nil w t ty e i ht hi ⟨g, off, none⟩ n cap hle, by simpa using hv, ⟨rfl, rfl, rfl, Nat.le_refl _, fun _ _ _ => rfl⟩, fun k hk => .inl hk⟩
  · exact run_vec_append w t ty e i z size bytes ht hi hz hsize hby hzs hsz _ n xs hv ad m c news hr.len hc h1 h63 hbytes
theorem wpList_append_any {ops : Array Oper} {rest : List Oper} {o : Oper} {a : Act} {Q : Exit → Act → World → Prop} (hgd : o.guard = none) (s x : Operand) (t : TypeId)
    (ho : o.op = .call { callee := .builtin .append, args := #[s, x], argTypes := #[t, t] })
    (e : TypeId) (i : TypeInfo) (z : Value) (size bytes : Nat) (ht : P.underlying t = some (.slice e)) (hi : P.info? e = some i) (hz : i.zero = some z)
    (hsize : i.size = size) (hby : i.bytes = bytes) (hzs : z.cells.size = size) (hsz : 0 < size)
    (v1 : Value) (n : Nat) (xs : List Value) (hs : a.eval s = v1) (hv : Vec w size v1 n xs)
    (v : Value) (m : Nat) (news : List Value) (hx : a.eval x = v) (hr : Rd w size v m news) (h1 : ∀ u ∈ news, u.oneCell' = true)
    (h63 : n + m ≤ maxLen) (hbytes : (n + m) * bytes ≤ 140737488355328)
    (h : ∀ v' w', Vec w' size v' (n + m) (xs ++ news) → w.grownBy w' v1.ownBlock → (∀ k, v'.ownBlock = some k → v1.ownBlock = some k ∨ w.heap.size ≤ k) → wpList P ops Q rest (a.put o.dst v') w') : wpList P ops Q (o :: rest) a w :=
  wpList_plain hgd fun K hK => by
    obtain ⟨v', w', hrun, h2, h3, h4⟩ := run_append_any (P := P) (w := w) t o.type e i z size bytes ht hi hz hsize hby hzs hsz v1 n xs hv v m news hr h1 h63 hbytes
    unfold Oper.wp execOp
    simp only [ho, resolve, invoke, builtin, Sem.run_bind, Sem.run_pure, Result.andThen_ok, List.map_toArray, List.map_cons, List.map_nil, hs, hx, hrun]
    exact hK _ _ (h v' w' h2 h3 h4)
theorem step_append_any {ops : Array Oper} {o : Oper} {a : Act} {K : Act → World → Prop} {Q : Exit → Act → World → Prop} {E : Prop} (hgd : o.guard = none) (s x : Operand) (t : TypeId)
    (ho : o.op = .call { callee := .builtin .append, args := #[s, x], argTypes := #[t, t] })
    (e : TypeId) (i : TypeInfo) (z : Value) (size bytes : Nat) (ht : P.underlying t = some (.slice e)) (hi : P.info? e = some i) (hz : i.zero = some z)
    (hsize : i.size = size) (hby : i.bytes = bytes) (hzs : z.cells.size = size) (hsz : 0 < size)
    (v1 : Value) (n : Nat) (xs : List Value) (hs : a.eval s = v1) (hv : Vec w size v1 n xs)
    (v : Value) (m : Nat) (news : List Value) (hx : a.eval x = v) (hr : Rd w size v m news) (h1 : ∀ u ∈ news, u.oneCell' = true)
    (h63 : n + m ≤ maxLen) (hbytes : (n + m) * bytes ≤ 140737488355328)
    (h : ∀ v' w', Vec w' size v' (n + m) (xs ++ news) → w.grownBy w' v1.ownBlock → (∀ k, v'.ownBlock = some k → v1.ownBlock = some k ∨ w.heap.size ≤ k) → K (a.put o.dst v') w') :
    if Region.wanted o (yielded ops a.tmps) = true then Oper.wp P o a w K Q else E := by
  have hw : Region.wanted o (yielded ops a.tmps) = true := by simp [Region.wanted, hgd]
  rw [if_pos hw]
  obtain ⟨v', w', hrun, h2, h3, h4⟩ := run_append_any (P := P) (w := w) t o.type e i z size bytes ht hi hz hsize hby hzs hsz v1 n xs hv v m news hr h1 h63 hbytes
  unfold Oper.wp execOp
  simp only [ho, resolve, invoke, builtin, Sem.run_bind, Sem.run_pure, Result.andThen_ok, List.map_toArray, List.map_cons, List.map_nil, hs, hx, hrun]
  exact h v' w' h2 h3 h4
end
end Go.Proofs.Yteoeaojebklfjaa
