/- A slice by its cells, wherever it lies in its block: reading, cutting, appending, storing. No program. -/
import Derived.Test.YthmdaekkpihlnaaW5
import Derived.ArgAppend
import Derived.Laws.IdiomCopy
namespace Go.Proofs.Ythmdaekkpihlnaa
open Go.RowKit
set_option linter.unusedVariables false

structure Vec (w : World) (size : Nat) (v : Value) (n : Nat) (xs : List Value) : Prop where
  len : xs.length = n * size
  form : (v = .slice none 0 0 ∧ n = 0) ∨ ∃ g off cap, v = .slice (some ⟨g, off, none⟩) n cap ∧ n ≤ cap ∧ cap ≤ maxLen ∧ g < w.heap.size ∧
    (∀ j u, xs[j]? = some u → w.cell? ⟨g, off + j, none⟩ = some u) ∧ (∀ j, j < cap * size → (w.cell? ⟨g, off + j, none⟩).isSome = true ∧ w.frozen? ⟨g, off + j, none⟩ = false)

theorem Vec.nil (w : World) (size : Nat) : Vec w size (.slice none 0 0) 0 [] := ⟨by simp, .inl ⟨rfl, rfl⟩⟩

theorem Vec.kept {w w' : World} {size n : Nat} {v : Value} {xs : List Value} (h : Vec w size v n xs) (hs : w.heap.size ≤ w'.heap.size) (hb : ∀ g, v.ownBlock = some g → w'.heap[g]? = w.heap[g]?) : Vec w' size v n xs := by
  refine ⟨h.len, ?_⟩
  rcases h.form with h1 | ⟨g, off, cap, rfl, h1, h2, h3, h4, h5⟩
  · exact .inl h1
  · have hg := hb g rfl
    refine .inr ⟨g, off, cap, rfl, h1, h2, by omega, fun j u hu => ?_, fun j hj => ?_⟩
    · rw [World.cell?_of_block (w := w) (a := ⟨g, off + j, none⟩) hg]; exact h4 j u hu
    · rw [World.cell?_of_block (w := w) (a := ⟨g, off + j, none⟩) hg, World.frozen?_of_block (w := w) (a := ⟨g, off + j, none⟩) hg]; exact h5 j hj

theorem Vec.lt {w : World} {size n : Nat} {v : Value} {xs : List Value} (h : Vec w size v n xs) {k : Nat} (hk : v.ownBlock = some k) : k < w.heap.size := by
  rcases h.form with ⟨rfl, _⟩ | ⟨g, off, cap, rfl, h1, h2, h3, h4, h5⟩
  · cases hk
  · injection hk with hk; exact hk ▸ h3

theorem Vec.only {w w' : World} {size n : Nat} {v : Value} {xs : List Value} (h : Vec w size v n xs) {F : Nat → Prop} (ho : Only F w w') (hb : ∀ g, v.ownBlock = some g → ¬ F g) : Vec w' size v n xs :=
  h.kept ho.size fun g hg => ho.block g (h.lt hg) (hb g hg)

theorem Vec.drewN {w : World} {size n : Nat} {v : Value} {xs : List Value} (h : Vec w size v n xs) (k : Nat) : Vec (w.drewN k) size v n xs := h.kept (Nat.le_refl _) fun _ _ => rfl
theorem Vec.drew {w : World} {size n : Nat} {v : Value} {xs : List Value} (h : Vec w size v n xs) : Vec w.drew size v n xs := h.kept (Nat.le_refl _) fun _ _ => rfl
theorem Vec.alloc {w : World} {size n : Nat} {v : Value} {xs : List Value} (h : Vec w size v n xs) (o : Obj) : Vec (w.alloc o) size v n xs :=
  h.kept (by simp) fun g hg => Below.heap_alloc _ _ _ (h.lt hg)

theorem Vec.of_owns {w : World} {base : Nat} {e : TypeId} {size n : Nat} {v : Value} {xs : List Value} (h : w.ownsRow base e size v n xs) : Vec w size v n xs := by
  refine ⟨h.1, ?_⟩
  rcases h.2 with h1 | ⟨g, cap, cur, rfl, hb, hh, h1, h2, h3, h4⟩
  · exact .inl h1
  · refine .inr ⟨g, 0, cap, rfl, h1, h2, (h.lt g rfl).2, fun j u hu => ?_, fun j hj => ?_⟩
    · have := h.cells (g := g) rfl j u hu
      rwa [add_of (⟨g, 0, none⟩) j rfl] at this
    · rw [Nat.zero_add, cell_of_row w g j cur e (0, 0) hh]
      have hj' : j < cur.size := by rw [h3]; exact hj
      refine ⟨by simp [hj'], ?_⟩
      simp [World.frozen?, hh]
where
  add_of (a : Addr) (j : Nat) (hs : a.spot = none) : a.add j = ⟨a.block, a.off + j, none⟩ := by
    obtain ⟨b, o, s⟩ := a
    simp only at hs; subst hs
    cases j <;> simp [Addr.add]

theorem Vec.at_ {w : World} {size n : Nat} {v : Value} {xs : List Value} (h : Vec w size v n xs) (hn : 0 < n) : ∃ g off cap, v = .slice (some ⟨g, off, none⟩) n cap ∧ n ≤ cap ∧ cap ≤ maxLen ∧ g < w.heap.size ∧
    (∀ j u, xs[j]? = some u → w.cell? ⟨g, off + j, none⟩ = some u) ∧ (∀ j, j < cap * size → (w.cell? ⟨g, off + j, none⟩).isSome = true ∧ w.frozen? ⟨g, off + j, none⟩ = false) := by
  rcases h.form with ⟨_, rfl⟩ | h1
  · omega
  · exact h1

theorem Vec.shape {w : World} {size n : Nat} {v : Value} {xs : List Value} (h : Vec w size v n xs) : ∃ a cap, v = .slice a n cap ∧ n ≤ cap ∧ cap ≤ maxLen := by
  rcases h.form with ⟨rfl, rfl⟩ | ⟨g, off, cap, rfl, h1, h2, _⟩
  · exact ⟨none, 0, rfl, Nat.le_refl _, Nat.zero_le _⟩
  · exact ⟨_, _, rfl, h1, h2⟩

/-- the head cut off -/
theorem Vec.cut {w : World} {size n g off cap k : Nat} {xs : List Value} (h : Vec w size (.slice (some ⟨g, off, none⟩) n cap) n xs) (hk : k ≤ n) :
    Vec w size (.slice (if cap = k then some ⟨g, off, none⟩ else some ⟨g, off + k * size, none⟩) (n - k) (cap - k)) (n - k) (xs.drop (k * size)) := by
  refine ⟨by rw [List.length_drop, h.len, Nat.sub_mul], ?_⟩
  rcases h.form with ⟨h1, _⟩ | ⟨g', off', cap', he, h1, h2, h3, h4, h5⟩
  · cases h1
  · simp only [Value.slice.injEq, Option.some.injEq, Addr.mk.injEq, and_true, true_and] at he
    obtain ⟨⟨rfl, rfl⟩, rfl⟩ := he
    refine .inr ?_
    by_cases hc : cap = k
    · rw [if_pos hc]
      have hn : n = k := by omega
      subst hc
      subst hn
      refine ⟨g, off, _, rfl, Nat.le_refl _, by omega, h3, fun j u hu => ?_, fun j hj => by simp at hj⟩
      rw [List.drop_eq_nil_of_le (by rw [h.len]; exact Nat.le_refl _)] at hu
      simp at hu
    · rw [if_neg hc]
      refine ⟨g, off + k * size, cap - k, rfl, by omega, by omega, h3, fun j u hu => ?_, fun j hj => ?_⟩
      · rw [List.getElem?_drop] at hu
        rw [Nat.add_assoc]; exact h4 _ u hu
      · rw [Nat.add_assoc]
        refine h5 _ ?_
        rw [Nat.sub_mul] at hj
        have : k * size ≤ cap * size := Nat.mul_le_mul_right _ (by omega)
        omega

section
variable {P : Program} (w : World)
theorem run_vec_append (t ty e : TypeId) (i : TypeInfo) (z : Value) (size bytes : Nat) (ht : P.underlying t = some (.slice e)) (hi : P.info? e = some i) (hz : i.zero = some z)
    (hsize : i.size = size) (hby : i.bytes = bytes) (hzs : z.cells.size = size) (hsz : 0 < size)
    (v : Value) (n : Nat) (xs : List Value) (hv : Vec w size v n xs)
    (a : Addr) (m c : Nat) (news : List Value) (hl : news.length = m * size) (hnews : ∀ j u, news[j]? = some u → w.cell? (a.add j) = some u) (h1 : ∀ u ∈ news, u.oneCell' = true)
    (h63 : n + m ≤ maxLen) (hbytes : (n + m) * bytes ≤ 140737488355328) :
    ∃ v' w', (Builtin.append_ #[t, t] ty #[v, .slice (some a) m c]).run P w = .ok v' w' ∧ Vec w' size v' (n + m) (xs ++ news) ∧ w.grownBy w' v.ownBlock ∧ (∀ k, v'.ownBlock = some k → v.ownBlock = some k ∨ w.heap.size ≤ k) := by
  rcases hv.form with ⟨rfl, rfl⟩ | ⟨g, off, cap, rfl, h2, h3, h4, h5, h6⟩
  · have hx : xs = [] := List.eq_nil_of_length_eq_zero (by simpa using hv.len)
    subst hx
    obtain ⟨v', w', hr, k1, k2, k3, k4⟩ := run_append_own_at (P := P) w w.heap.size t ty e i z size bytes ht hi hz hsize hby hzs hsz (.slice none 0 0) 0 [] (World.ownsRow_nil _ _ _ _) a m c news hl hnews h1 h63 hbytes (Nat.le_refl _)
    exact ⟨v', w', hr, Vec.of_owns k1, k2, fun k hk => .inr (k1.lt k hk).1⟩
  · by_cases hroom : n + m ≤ cap
    · subst hsize
      have hb : ∀ j, j < news.length → n * i.size + j < cap * i.size := fun j hj => by
        rw [hl] at hj
        have : (n + m) * i.size ≤ cap * i.size := Nat.mul_le_mul_right _ hroom
        rw [Nat.add_mul] at this
        omega
      have hr := run_append_room_cells (P := P) w t ty e i ht hi g off n cap a m c news hl hnews h1 hroom (fun j hj => by rw [Nat.add_assoc]; exact (h6 _ (hb j hj)).1) (fun j hj => by rw [Nat.add_assoc]; exact (h6 _ (hb j hj)).2)
      refine ⟨_, _, hr, ⟨by rw [List.length_append, hv.len, hl, Nat.add_mul], .inr ⟨g, off, cap, rfl, hroom, h3, ?_, ?_, ?_⟩⟩, ?_, fun k hk => .inl hk⟩
      · rw [size_setCells]; exact h4
      · intro j u hu
        rcases Nat.lt_or_ge j xs.length with hj | hj
        · rw [List.getElem?_append_left hj] at hu
          rw [World.cell?_setCells_out g news _ w ⟨g, off + j, none⟩ (fun _ _ => .inl (by simp only; rw [hv.len] at hj; omega))]
          exact h5 j u hu
        · rw [List.getElem?_append_right hj] at hu
          have hj2 : j - xs.length < news.length := (List.getElem?_eq_some_iff.1 hu).1
          have := World.cell?_setCells_in g news (off + n * i.size) w (fun j hj => by rw [Nat.add_assoc]; exact (h6 _ (hb j hj)).1) (j - xs.length) hj2
          have hxl := hv.len
          have e : off + n * i.size + (j - xs.length) = off + j := by omega
          rw [e] at this
          rw [this]
          rw [List.getElem?_eq_getElem hj2] at hu
          exact hu
      · intro j hj
        rw [World.frozen?_setCells]
        refine ⟨?_, (h6 j hj).2⟩
        by_cases hin : n * i.size ≤ j ∧ j < n * i.size + news.length
        · have := World.cell?_setCells_in g news (off + n * i.size) w (fun j hj => by rw [Nat.add_assoc]; exact (h6 _ (hb j hj)).1) (j - n * i.size) (by omega)
          have e : off + n * i.size + (j - n * i.size) = off + j := by omega
          rw [e] at this
          rw [this]; rfl
        · rw [World.cell?_setCells_out g news _ w ⟨g, off + j, none⟩ (fun _ _ => by simp only; omega)]
          exact (h6 j hj).1
      · exact grown_setCells _ _ _ _
    · obtain ⟨v', w', hr, k1, k2⟩ := run_append_arg_grows (P := P) w t ty e i z size bytes ht hi hz hsize hby hzs hsz ⟨g, off, none⟩ n cap xs hv.len (fun j u hu => by rw [add_of (⟨g, off, none⟩) j rfl]; exact h5 j u hu) a m c news hl hnews (by omega) h63 hbytes
      exact ⟨v', w', hr, Vec.of_owns k1, ⟨k2.os, k2.tape, k2.output, k2.size, fun k hk _ => k2.block k hk (by simp)⟩, fun k hk => .inr (k1.lt k hk).1⟩
where
  add_of (a : Addr) (j : Nat) (hs : a.spot = none) : a.add j = ⟨a.block, a.off + j, none⟩ := by
    obtain ⟨b, o, s⟩ := a
    simp only at hs; subst hs
    cases j <;> simp [Addr.add]
  size_setCells (b : Nat) : ∀ (vs : List Value) (o : Nat) (w : World), (w.setCells b o vs).heap.size = w.heap.size
    | [], _, _ => rfl
    | v :: vs, o, w => by
      show ((w.setCell ⟨b, o, none⟩ v).setCells b (o + 1) vs).heap.size = _
      rw [size_setCells b vs (o + 1)]; simp [World.setCell]
  grown_setCells (b : Nat) : ∀ (vs : List Value) (o : Nat) (w : World), w.grownBy (w.setCells b o vs) (some b)
    | [], _, w => ⟨rfl, rfl, rfl, Nat.le_refl _, fun _ _ _ => rfl⟩
    | v :: vs, o, w => by
      have h1 : w.grownBy (w.setCell ⟨b, o, none⟩ v) (some b) := ⟨rfl, rfl, rfl, by simp [World.setCell], fun k _ hk => Below.heap_setCell _ _ _ _ fun e => hk (by rw [e])⟩
      exact h1.trans (grown_setCells b vs (o + 1) _)

theorem wp_vec_append {o : Oper} {a : Act} {K : Act → World → Prop} {Q : Exit → Act → World → Prop} (s x : Operand) (t : TypeId)
    (ho : o.op = .call { callee := .builtin .append, args := #[s, x], argTypes := #[t, t] })
    (e : TypeId) (i : TypeInfo) (z : Value) (size bytes : Nat) (ht : P.underlying t = some (.slice e)) (hi : P.info? e = some i) (hz : i.zero = some z)
    (hsize : i.size = size) (hby : i.bytes = bytes) (hzs : z.cells.size = size) (hsz : 0 < size)
    (v : Value) (n : Nat) (xs : List Value) (hs : a.eval s = v) (hv : Vec w size v n xs)
    (ad : Addr) (m c : Nat) (news : List Value) (hx : a.eval x = .slice (some ad) m c) (hl : news.length = m * size) (hnews : ∀ j u, news[j]? = some u → w.cell? (ad.add j) = some u) (h1 : ∀ u ∈ news, u.oneCell' = true)
    (h63 : n + m ≤ maxLen) (hbytes : (n + m) * bytes ≤ 140737488355328)
    (h : ∀ v' w', Vec w' size v' (n + m) (xs ++ news) → w.grownBy w' v.ownBlock → (∀ k, v'.ownBlock = some k → v.ownBlock = some k ∨ w.heap.size ≤ k) → K (a.put o.dst v') w') : o.wp P a w K Q := by
  obtain ⟨v', w', hr, h2, h3, h4⟩ := run_vec_append (P := P) w t o.type e i z size bytes ht hi hz hsize hby hzs hsz v n xs hv ad m c news hl hnews h1 h63 hbytes
  unfold Oper.wp execOp
  simp only [ho, resolve, invoke, builtin, Sem.run_bind, Sem.run_pure, Result.andThen_ok, List.map_toArray, List.map_cons, List.map_nil, hs, hx, hr]
  exact h v' w' h2 h3 h4

theorem wpList_vec_append {ops : Array Oper} {rest : List Oper} {o : Oper} {a : Act} {Q : Exit → Act → World → Prop} (hgd : o.guard = none) (s x : Operand) (t : TypeId)
    (ho : o.op = .call { callee := .builtin .append, args := #[s, x], argTypes := #[t, t] })
    (e : TypeId) (i : TypeInfo) (z : Value) (size bytes : Nat) (ht : P.underlying t = some (.slice e)) (hi : P.info? e = some i) (hz : i.zero = some z)
    (hsize : i.size = size) (hby : i.bytes = bytes) (hzs : z.cells.size = size) (hsz : 0 < size)
    (v : Value) (n : Nat) (xs : List Value) (hs : a.eval s = v) (hv : Vec w size v n xs)
    (ad : Addr) (m c : Nat) (news : List Value) (hx : a.eval x = .slice (some ad) m c) (hl : news.length = m * size) (hnews : ∀ j u, news[j]? = some u → w.cell? (ad.add j) = some u) (h1 : ∀ u ∈ news, u.oneCell' = true)
    (h63 : n + m ≤ maxLen) (hbytes : (n + m) * bytes ≤ 140737488355328)
    (h : ∀ v' w', Vec w' size v' (n + m) (xs ++ news) → w.grownBy w' v.ownBlock → (∀ k, v'.ownBlock = some k → v.ownBlock = some k ∨ w.heap.size ≤ k) → wpList P ops Q rest (a.put o.dst v') w') : wpList P ops Q (o :: rest) a w :=
  wpList_plain hgd fun _ hK => wp_vec_append w s x t ho e i z size bytes ht hi hz hsize hby hzs hsz v n xs hs hv ad m c news hx hl hnews h1 h63 hbytes fun v' w' h2 h3 h4 => hK _ _ (h v' w' h2 h3 h4)

theorem step_vec_append {ops : Array Oper} {o : Oper} {a : Act} {K : Act → World → Prop} {Q : Exit → Act → World → Prop} {E : Prop} (hgd : o.guard = none) (s x : Operand) (t : TypeId)
    (ho : o.op = .call { callee := .builtin .append, args := #[s, x], argTypes := #[t, t] })
    (e : TypeId) (i : TypeInfo) (z : Value) (size bytes : Nat) (ht : P.underlying t = some (.slice e)) (hi : P.info? e = some i) (hz : i.zero = some z)
    (hsize : i.size = size) (hby : i.bytes = bytes) (hzs : z.cells.size = size) (hsz : 0 < size)
    (v : Value) (n : Nat) (xs : List Value) (hs : a.eval s = v) (hv : Vec w size v n xs)
    (ad : Addr) (m c : Nat) (news : List Value) (hx : a.eval x = .slice (some ad) m c) (hl : news.length = m * size) (hnews : ∀ j u, news[j]? = some u → w.cell? (ad.add j) = some u) (h1 : ∀ u ∈ news, u.oneCell' = true)
    (h63 : n + m ≤ maxLen) (hbytes : (n + m) * bytes ≤ 140737488355328)
    (h : ∀ v' w', Vec w' size v' (n + m) (xs ++ news) → w.grownBy w' v.ownBlock → (∀ k, v'.ownBlock = some k → v.ownBlock = some k ∨ w.heap.size ≤ k) → K (a.put o.dst v') w') :
    if Region.wanted o (yielded ops a.tmps) = true then Oper.wp P o a w K Q else E := by
  have hw : Region.wanted o (yielded ops a.tmps) = true := by simp [Region.wanted, hgd]
  rw [if_pos hw]
  exact wp_vec_append w s x t ho e i z size bytes ht hi hz hsize hby hzs hsz v n xs hs hv ad m c news hx hl hnews h1 h63 hbytes h

end

end Go.Proofs.Ythmdaekkpihlnaa
