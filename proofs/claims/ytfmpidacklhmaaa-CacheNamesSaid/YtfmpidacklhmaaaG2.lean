/- Small lemmas: cells, loops, appends. No program. -/
import Derived.Test.YtfmpidacklhmaaaR0
import Derived.Test.YtfmpidacklhmaaaK2
import Derived.IntWalk
namespace Go.Proofs.Ytfmpidacklhmaaa
open Go.RowKit Go.Maps
set_option linter.unusedVariables false

theorem cell_aside (w : World) (D i j : Nat) (v : Value) (h : i ≠ j) : (w.setCell ⟨D, i, none⟩ v).cell? ⟨D, j, none⟩ = w.cell? ⟨D, j, none⟩ := World.cell?_setCell_other _ _ _ _ (off_ne h)
/-- cells of a block -/
structure CellsR (w : World) (X : Nat) (us : List Value) : Prop where
  is : ∀ i u, us[i]? = some u → w.cell? ⟨X, i, none⟩ = some u
  thaw : ∀ i, w.frozen? ⟨X, i, none⟩ = false
  lt : X < w.heap.size
theorem CellsR.kept {w w' : World} {X : Nat} {us : List Value} (c : CellsR w X us) {S : Nat → Prop} (ho : Only S w w') (hn : ¬ S X) : CellsR w' X us :=
  ⟨fun i u hu => (ho.cell c.lt hn i).trans (c.is i u hu), fun i => (ho.frozen c.lt hn i).trans (c.thaw i), Nat.lt_of_lt_of_le c.lt ho.size⟩
theorem CellsR.set {w : World} {X : Nat} {us : List Value} (c : CellsR w X us) {i : Nat} (hi : i < us.length) (v : Value) : CellsR (w.setCell ⟨X, i, none⟩ v) X (us.set i v) := by
  refine ⟨fun j u hu => ?_, fun j => by rw [World.frozen?_setCell]; exact c.thaw j, by rw [heap_size_setCell]; exact c.lt⟩
  by_cases e : i = j
  · subst e
    rw [List.getElem?_set_self hi] at hu
    injection hu with hu
    subst hu
    exact World.cell?_setCell_same _ _ _ (c.is i _ (List.getElem?_eq_getElem hi))
  · rw [List.getElem?_set_ne e] at hu
    exact (cell_aside w X i j v e).trans (c.is j u hu)
theorem cells_new (w : World) (vs : List Value) (t : TypeId) : CellsR (w.alloc (.cells vs.toArray t)) w.heap.size vs :=
  ⟨fun i u hu => by rw [World.cell?_alloc_new]; simpa using hu, fun i => World.frozen?_alloc_new _ _ _ _, by simp⟩
theorem next_int {k : Nat} (h : k ≤ 1000000) : Value.int .i64 (wrap64 ((k : Int) + 1)) = .int .i64 ((k + 1 : Nat) : Int) := by
  rw [IntWalk.wrap64_in _ (by omega)]; rfl
theorem meas {n k : Nat} (h : k < n) (hn : n ≤ 1000000) : n - (intOf (.int .i64 (wrap64 ((k : Int) + 1)))).toNat < n - (intOf (.int .i64 (k : Int))).toNat := by
  rw [next_int (by omega)]
  simp only [intOf]
  omega
theorem next_len {k n : Nat} (h : k < n) (hn : n ≤ maxLen) : Value.int .i64 (wrap64 ((k : Int) + 1)) = .int .i64 ((k + 1 : Nat) : Int) := by
  unfold maxLen at hn
  rw [IntWalk.wrap64_in _ (by omega)]; rfl
theorem meas_len {n k : Nat} (h : k < n) (hn : n ≤ maxLen) : n - (intOf (.int .i64 (wrap64 ((k : Int) + 1)))).toNat < n - (intOf (.int .i64 (k : Int))).toNat := by
  rw [next_len h hn]
  simp only [intOf]
  omega
theorem Vec.free {w : World} {size n g off cap : Nat} {xs : List Value} (h : Vec w size (.slice (some ⟨g, off, none⟩) n cap) n xs) {k : Nat} (hk : k < n * size) : (w.cell? ⟨g, off + k, none⟩).isSome = true ∧ w.frozen? ⟨g, off + k, none⟩ = false := by
  have := h.there (o := 0) (k := n * size) (by omega) k hk
  rwa [Nat.add_zero] at this
theorem Vec.free0 {w : World} {size n g cap : Nat} {xs : List Value} (h : Vec w size (.slice (some ⟨g, 0, none⟩) n cap) n xs) {k : Nat} (hk : k < n * size) : (w.cell? ⟨g, k, none⟩).isSome = true ∧ w.frozen? ⟨g, k, none⟩ = false := by
  have := h.free hk
  rwa [Nat.zero_add] at this
theorem Vec.set1 {w : World} {n g cap : Nat} {xs : List Value} (h : Vec w 1 (.slice (some ⟨g, 0, none⟩) n cap) n xs) {k : Nat} (hk : k < n) (v : Value) : Vec (w.setCell ⟨g, k, none⟩ v) 1 (.slice (some ⟨g, 0, none⟩) n cap) n (xs.set k v) := by
  have h1 := h.put (o := k) (vs := [v]) (by simp; omega)
  have hl := h.len
  rw [Nat.zero_add, List.length_singleton] at h1
  rw [List.set_eq_take_append_cons_drop, if_pos (by omega)]
  simpa [World.setCells] using h1
theorem reach_eq : reachBytes = 140737488351232 := by decide
theorem Only.setNew {w0 w : World} {C : Nat} (h : Only None' w0 w) (hC : w0.heap.size ≤ C) (i : Nat) (v : Value) : Only None' w0 (w.setCell ⟨C, i, none⟩ v) :=
  h.trans2 ((Only.refl (fun k => k = C) w).setCell (p := ⟨C, i, none⟩) rfl v) fun k hk e => by omega
theorem cell_one' (w : World) (v : Value) (t : TypeId) : ∀ j u, [v][j]? = some u → (w.alloc (.cells #[v] t)).cell? ((⟨w.heap.size, 0, none⟩ : Addr).add j) = some u := by
  intro j u hu
  rw [add_mid' (⟨w.heap.size, 0, none⟩) j rfl]
  match j with
  | 0 =>
    simp at hu
    subst hu
    rw [World.cell?_alloc_new]; rfl
  | j + 1 => simp at hu
theorem rd_one' (w : World) (v : Value) (t : TypeId) : Rd (w.alloc (.cells #[v] t)) 1 (.slice (some ⟨w.heap.size, 0, none⟩) 1 1) 1 [v] := by
  refine ⟨rfl, .inr ⟨_, 1, rfl, Nat.le_refl _, by unfold maxLen; decide, fun j u hu => ?_⟩⟩
  rw [add_mid' (⟨w.heap.size, 0, none⟩) j rfl]
  match j with
  | 0 =>
    simp at hu
    subst hu
    rw [World.cell?_alloc_new]; rfl
  | j + 1 => simp at hu

section
variable {P : Program} {w : World}
theorem run_append_nils (t ty e : TypeId) (i : TypeInfo) (ht : P.underlying t = some (.slice e)) (hi : P.info? e = some i) :
    (Builtin.append_ #[t, t] ty #[.slice none 0 0, .slice none 0 0]).run P w = .ok (.slice none 0 0) w := by
  simp [Builtin.append_, run_underlying ht, sizeOf, typeInfo, hi, Builtin.lenOf, Builtin.firstCells]
/-- any row, behind any row -/
theorem run_append_any (t ty e : TypeId) (i : TypeInfo) (z : Value) (size bytes : Nat) (ht : P.underlying t = some (.slice e)) (hi : P.info? e = some i) (hz : i.zero = some z)
    (hsize : i.size = size) (hby : i.bytes = bytes) (hzs : z.cells.size = size) (hsz : 0 < size)
    (v1 : Value) (n : Nat) (xs : List Value) (hv : Vec w size v1 n xs) (v : Value) (m : Nat) (news : List Value) (hr : Rd w size v m news) (h1 : ∀ u ∈ news, u.oneCell' = true)
    (h63 : n + m ≤ maxLen) (hbytes : (n + m) * bytes ≤ 140737488355328) :
    ∃ v' w', (Builtin.append_ #[t, t] ty #[v1, v]).run P w = .ok v' w' ∧ Vec w' size v' (n + m) (xs ++ news) ∧ w.grownBy w' v1.ownBlock ∧ (∀ k, v'.ownBlock = some k → v1.ownBlock = some k ∨ w.heap.size ≤ k) := by
  rcases hr.form with ⟨rfl, rfl⟩ | ⟨ad, c, rfl, _, _, hc⟩
  · have hx : news = [] := List.eq_nil_of_length_eq_zero (by simpa using hr.len)
    subst hx
    rcases hv.form with ⟨rfl, rfl⟩ | ⟨g, off, cap, rfl, hle, _⟩
    · refine ⟨_, _, run_append_nils t ty e i ht hi, by simpa using hv, ⟨rfl, rfl, rfl, Nat.le_refl _, fun _ _ _ => rfl⟩, fun k hk => .inl hk⟩
    · refine ⟨_, _, run_append_nil w t ty e i ht hi ⟨g, off, none⟩ n cap hle, by simpa using hv, ⟨rfl, rfl, rfl, Nat.le_refl _, fun _ _ _ => rfl⟩, fun k hk => .inl hk⟩
  · exact run_vec_append w t ty e i z size bytes ht hi hz hsize hby hzs hsz _ n xs hv ad m c news hr.len hc h1 h63 hbytes
theorem wpList_append_any {ops : Array Oper} {rest : List Oper} {o : Oper} {a : Act} {Q : Exit → Act → World → Prop} (hgd : o.guard = none) (s x : Operand) (t : TypeId)
    (ho : o.op = .call { callee := .builtin .append, args := #[s, x], argTypes := #[t, t] })
    (e : TypeId) (i : TypeInfo) (z : Value) (size bytes : Nat) (ht : P.underlying t = some (.slice e)) (hi : P.info? e = some i) (hz : i.zero = some z)
    (hsize : i.size = size) (hby : i.bytes = bytes) (hzs : z.cells.size = size) (hsz : 0 < size)
    (v1 : Value) (n : Nat) (xs : List Value) (hs : a.eval s = v1) (hv : Vec w size v1 n xs)
    (v : Value) (m : Nat) (news : List Value) (hx : a.eval x = v) (hr : Rd w size v m news) (h1 : ∀ u ∈ news, u.oneCell' = true)
    (h63 : n + m ≤ maxLen) (hbytes : (n + m) * bytes ≤ 140737488355328)
    (h : ∀ v' w', Vec w' size v' (n + m) (xs ++ news) → w.grownBy w' v1.ownBlock → (∀ k, v'.ownBlock = some k → v1.ownBlock = some k ∨ w.heap.size ≤ k) → wpList P ops Q rest (a.put o.dst v') w') : wpList P ops Q (o :: rest) a w :=
  wpList_plain hgd fun K hK => by
    obtain ⟨v', w', hrun, h2, h3, h4⟩ := run_append_any (P := P) (w := w) t o.type e i z size bytes ht hi hz hsize hby hzs hsz v1 n xs hv v m news hr h1 h63 hbytes
    unfold Oper.wp execOp
    simp only [ho, resolve, invoke, builtin, Sem.run_bind, Sem.run_pure, Result.andThen_ok, List.map_toArray, List.map_cons, List.map_nil, hs, hx, hrun]
    exact hK _ _ (h v' w' h2 h3 h4)
theorem step_append_any {ops : Array Oper} {o : Oper} {a : Act} {K : Act → World → Prop} {Q : Exit → Act → World → Prop} {E : Prop} (hgd : o.guard = none) (s x : Operand) (t : TypeId)
    (ho : o.op = .call { callee := .builtin .append, args := #[s, x], argTypes := #[t, t] })
    (e : TypeId) (i : TypeInfo) (z : Value) (size bytes : Nat) (ht : P.underlying t = some (.slice e)) (hi : P.info? e = some i) (hz : i.zero = some z)
    (hsize : i.size = size) (hby : i.bytes = bytes) (hzs : z.cells.size = size) (hsz : 0 < size)
    (v1 : Value) (n : Nat) (xs : List Value) (hs : a.eval s = v1) (hv : Vec w size v1 n xs)
    (v : Value) (m : Nat) (news : List Value) (hx : a.eval x = v) (hr : Rd w size v m news) (h1 : ∀ u ∈ news, u.oneCell' = true)
    (h63 : n + m ≤ maxLen) (hbytes : (n + m) * bytes ≤ 140737488355328)
    (h : ∀ v' w', Vec w' size v' (n + m) (xs ++ news) → w.grownBy w' v1.ownBlock → (∀ k, v'.ownBlock = some k → v1.ownBlock = some k ∨ w.heap.size ≤ k) → K (a.put o.dst v') w') :
    if Region.wanted o (yielded ops a.tmps) = true then Oper.wp P o a w K Q else E := by
  have hw : Region.wanted o (yielded ops a.tmps) = true := by simp [Region.wanted, hgd]
  rw [if_pos hw]
  obtain ⟨v', w', hrun, h2, h3, h4⟩ := run_append_any (P := P) (w := w) t o.type e i z size bytes ht hi hz hsize hby hzs hsz v1 n xs hv v m news hr h1 h63 hbytes
  unfold Oper.wp execOp
  simp only [ho, resolve, invoke, builtin, Sem.run_bind, Sem.run_pure, Result.andThen_ok, List.map_toArray, List.map_cons, List.map_nil, hs, hx, hrun]
  exact h v' w' h2 h3 h4
end
section
variable {P : Program} (w : World)
theorem run_append_two (t ty e : TypeId) (i : TypeInfo) (z : Value) (size bytes : Nat) (ht : P.underlying t = some (.slice e)) (hi : P.info? e = some i) (hz : i.zero = some z)
    (hsize : i.size = size) (hby : i.bytes = bytes) (hzs : z.cells.size = size) (hsz : 0 < size)
    (v : Value) (n : Nat) (xs : List Value) (hv : Vec w size v n xs)
    (a : Addr) (m c : Nat) (news : List Value) (hl : news.length = m * size) (hnews : ∀ j u, news[j]? = some u → w.cell? (a.add j) = some u) (h1 : ∀ u ∈ news, u.oneCell' = true)
    (h63 : n + m ≤ maxLen) (hbytes : (n + m) * bytes ≤ 140737488355328) :
    ∃ v' w', (Builtin.append_ #[t, t] ty #[v, .slice (some a) m c]).run P w = .ok v' w' ∧ Vec w' size v' (n + m) (xs ++ news) ∧
      ((∃ ad c, v = .slice (some ad) n c ∧ v' = .slice (some ad) (n + m) c ∧ w.grownBy w' v.ownBlock) ∨ (Only None' w w' ∧ ∀ k, v'.ownBlock = some k → w.heap.size ≤ k)) := by
  rcases hv.form with ⟨rfl, rfl⟩ | ⟨g, off, cap, rfl, h2, h3, h4, h5, h6⟩
  · have hx : xs = [] := List.eq_nil_of_length_eq_zero (by simpa using hv.len)
    subst hx
    obtain ⟨v', w', hr, k1, k2, k3, k4⟩ := run_append_own_at (P := P) w w.heap.size t ty e i z size bytes ht hi hz hsize hby hzs hsz (.slice none 0 0) 0 [] (World.ownsRow_nil _ _ _ _) a m c news hl hnews h1 h63 hbytes (Nat.le_refl _)
    exact ⟨v', w', hr, Vec.of_owns k1, .inr ⟨(Only.refl None' w).grown k2 (fun k hk => by cases hk), fun k hk => (k1.lt k hk).1⟩⟩
  · by_cases hroom : n + m ≤ cap
    · subst hsize
      have hb : ∀ j, j < news.length → n * i.size + j < cap * i.size := fun j hj => by
        rw [hl] at hj
        have : (n + m) * i.size ≤ cap * i.size := Nat.mul_le_mul_right _ hroom
        rw [Nat.add_mul] at this
        omega
      have hr := run_append_room_cells (P := P) w t ty e i ht hi g off n cap a m c news hl hnews h1 hroom (fun j hj => by rw [Nat.add_assoc]; exact (h6 _ (hb j hj)).1) (fun j hj => by rw [Nat.add_assoc]; exact (h6 _ (hb j hj)).2)
      obtain ⟨v', w', hr2, k1, k2, _⟩ := run_vec_append (P := P) w t ty e i z i.size bytes ht hi hz rfl hby hzs hsz _ n xs hv a m c news hl hnews h1 h63 hbytes
      rw [hr] at hr2
      injection hr2 with e1 e2
      subst e1 e2
      exact ⟨_, _, hr, k1, .inl ⟨⟨g, off, none⟩, cap, rfl, rfl, k2⟩⟩
    · obtain ⟨v', w', hr, k1, k2⟩ := run_append_arg_grows (P := P) w t ty e i z size bytes ht hi hz hsize hby hzs hsz ⟨g, off, none⟩ n cap xs hv.len (fun j u hu => by rw [add_mid' (⟨g, off, none⟩) j rfl]; exact h5 j u hu) a m c news hl hnews (by omega) h63 hbytes
      exact ⟨v', w', hr, Vec.of_owns k1, .inr ⟨(Only.refl None' w).grown k2 (fun k hk => by cases hk), fun k hk => (k1.lt k hk).1⟩⟩
end
theorem wpList_append_two {P : Program} {w : World} {ops : Array Oper} {rest : List Oper} {o : Oper} {a : Act} {Q : Exit → Act → World → Prop} (hgd : o.guard = none) (s x : Operand) (t : TypeId)
    (ho : o.op = .call { callee := .builtin .append, args := #[s, x], argTypes := #[t, t] })
    (e : TypeId) (i : TypeInfo) (z : Value) (size bytes : Nat) (ht : P.underlying t = some (.slice e)) (hi : P.info? e = some i) (hz : i.zero = some z)
    (hsize : i.size = size) (hby : i.bytes = bytes) (hzs : z.cells.size = size) (hsz : 0 < size)
    (v : Value) (n : Nat) (xs : List Value) (hs : a.eval s = v) (hv : Vec w size v n xs)
    (ad : Addr) (m c : Nat) (news : List Value) (hx : a.eval x = .slice (some ad) m c) (hl : news.length = m * size) (hnews : ∀ j u, news[j]? = some u → w.cell? (ad.add j) = some u) (h1 : ∀ u ∈ news, u.oneCell' = true)
    (h63 : n + m ≤ maxLen) (hbytes : (n + m) * bytes ≤ 140737488355328)
    (h : ∀ v' w', Vec w' size v' (n + m) (xs ++ news) → ((∃ ad c, v = .slice (some ad) n c ∧ v' = .slice (some ad) (n + m) c ∧ w.grownBy w' v.ownBlock) ∨ (Only None' w w' ∧ ∀ k, v'.ownBlock = some k → w.heap.size ≤ k)) → wpList P ops Q rest (a.put o.dst v') w') : wpList P ops Q (o :: rest) a w :=
  wpList_plain hgd fun K hK => by
    obtain ⟨v', w', hrun, h2, h3⟩ := run_append_two (P := P) w t o.type e i z size bytes ht hi hz hsize hby hzs hsz v n xs hv ad m c news hl hnews h1 h63 hbytes
    unfold Oper.wp execOp
    simp only [ho, resolve, invoke, builtin, Sem.run_bind, Sem.run_pure, Result.andThen_ok, List.map_toArray, List.map_cons, List.map_nil, hs, hx, hrun]
    exact hK _ _ (h v' w' h2 h3)
end Go.Proofs.Ytfmpidacklhmaaa
