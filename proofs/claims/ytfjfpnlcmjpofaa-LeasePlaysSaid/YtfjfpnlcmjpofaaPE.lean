/- Putting a lease in where it belongs; copy of a row of structs. -/
import Derived.Test.YtfjfpnlcmjpofaaPD
namespace Go.Proofs.Ytfjfpnlcmjpofaa
open Go.RowKit Go.Maps Go.Sort Go.Shelf
set_option linter.unusedVariables false

theorem ins_up {out : List Ls} {x : Ls} {k : Nat} (hkl0 : k ≤ out.length) (hu : Up out) (h1 : ∀ y ∈ out.drop k, Bf x y) (h2 : ∀ y, 0 < k → out[k - 1]? = some y → ¬ Bf x y) : Up (out.take k ++ x :: out.drop k) := by
  have hd : Up (out.take k ++ out.drop k) := by rw [List.take_append_drop]; exact hu
  obtain ⟨a1, a2, a3⟩ := List.pairwise_append.1 hd
  refine List.pairwise_append.2 ⟨a1, List.pairwise_cons.2 ⟨fun y hy hb => Bf.irrefl x ((h1 y hy).trans hb), a2⟩, fun a ha b hb => ?_⟩
  rcases List.mem_cons.1 hb with rfl | hb
  · intro hxa
    obtain ⟨i, hi, rfl⟩ := List.getElem_of_mem ha
    have hi' : i < min k out.length := by rw [← List.length_take]; exact hi
    have hk : 0 < k := by omega
    have hkl : k - 1 < out.length := by omega
    have hlast := h2 (out[k - 1]) hk (List.getElem?_eq_getElem hkl)
    rw [List.getElem_take] at hxa
    rcases Nat.lt_or_ge i (k - 1) with h | h
    · have hp := (List.pairwise_iff_getElem.1 hu) i (k - 1) (by omega) hkl h
      rcases Bf.tri (out[i]'(by omega)) (out[k - 1]'hkl) with g | ⟨g1, g2⟩ | g
      · exact hlast (hxa.trans g)
      · apply hlast
        unfold Bf at hxa ⊢
        rw [← g1, ← g2]
        exact hxa
      · exact hp g
    · have : i = k - 1 := by omega
      subst this
      exact hlast hxa
  · exact a3 a ha b hb
theorem ins_perm {out l : List Ls} {x : Ls} {k : Nat} (h : out.Perm l) : (out.take k ++ x :: out.drop k).Perm (l ++ [x]) := by
  refine List.perm_middle.trans ?_
  rw [List.take_append_drop]
  exact (h.cons x).trans (List.perm_append_singleton x l).symm
section
variable {P : Program}
theorem run_copy_many (w : World) (dT sT ty elem : TypeId) (i : TypeInfo) (size b o dLen dCap : Nat) (a : Addr) (sLen sCap m : Nat) (cs : List Value)
    (hu : P.underlying dT = some (.slice elem)) (hq : P.info? elem = some i) (hi : i.size = size) (hm : m = Nat.min sLen dLen) (hn : cs.length = m * size)
    (hsrc : ∀ j v, cs[j]? = some v → w.cell? (a.add j) = some v) (hc : ∀ j, j < cs.length → (w.cell? ⟨b, o + j, none⟩).isSome = true) (hf : ∀ j, j < cs.length → w.frozen? ⟨b, o + j, none⟩ = false) (h1 : ∀ v ∈ cs, v.oneCell' = true) :
    (Builtin.copy_ #[dT, sT] ty #[.slice (some ⟨b, o, none⟩) dLen dCap, .slice (some a) sLen sCap]).run P w = .ok (goInt m) (w.setCells b o cs) := by
  have hl := run_loadCells_list (P := P) w a cs hsrc
  have hst := run_storeCells_cells (P := P) b o cs 0 w (by simpa using hc) (by simpa using hf) h1
  subst hi
  simp [Builtin.copy_, run_underlying hu, Builtin.lenOf, Builtin.firstCells, sizeOf, typeInfo, hq, ← hm, ← hn, hl, hst]
theorem run_copy_zero (w : World) (dT sT ty elem : TypeId) (i : TypeInfo) (d a : Option Addr) (dLen dCap sLen sCap : Nat) (hu : P.underlying dT = some (.slice elem)) (hq : P.info? elem = some i) (hn : Nat.min sLen dLen = 0) :
    (Builtin.copy_ #[dT, sT] ty #[.slice d dLen dCap, .slice a sLen sCap]).run P w = .ok (goInt 0) w := by
  have hl : ∀ (x : Addr), (loadCells x 0).run P w = .ok #[] w := fun x => by simpa using run_loadCells_list (P := P) w x [] (by simp)
  cases d <;> cases a <;> simp [Builtin.copy_, run_underlying hu, Builtin.lenOf, Builtin.firstCells, sizeOf, typeInfo, hq, hn, storeCells, hl]
theorem wpList_copy_many {w : World} {ops : Array Oper} {rest : List Oper} {o : Oper} {a : Act} {Q : Exit → Act → World → Prop} (hgd : o.guard = none) (d s : Operand) (t : TypeId)
    (ho : o.op = .call { callee := .builtin .copy, args := #[d, s], argTypes := #[t, t] }) (e : TypeId) (i : TypeInfo) (size : Nat) (ht : P.underlying t = some (.slice e)) (hq : P.info? e = some i) (hi : i.size = size)
    (g off dLen dCap : Nat) (ad : Addr) (sLen sCap m : Nat) (hd : a.eval d = .slice (some ⟨g, off, none⟩) dLen dCap) (hs : a.eval s = .slice (some ad) sLen sCap) (hm : m = Nat.min sLen dLen) (cs : List Value) (hn : cs.length = m * size)
    (hsrc : ∀ j v, cs[j]? = some v → w.cell? (ad.add j) = some v) (hc : ∀ j, j < cs.length → (w.cell? ⟨g, off + j, none⟩).isSome = true ∧ w.frozen? ⟨g, off + j, none⟩ = false) (h1 : ∀ v ∈ cs, v.oneCell' = true)
    (h : wpList P ops Q rest (a.put o.dst (goInt m)) (w.setCells g off cs)) : wpList P ops Q (o :: rest) a w := by
  refine wpList_plain hgd fun K hK => ?_
  have hrun := run_copy_many (P := P) w t t o.type e i size g off dLen dCap ad sLen sCap m cs ht hq hi hm hn hsrc (fun j hj => (hc j hj).1) (fun j hj => (hc j hj).2) h1
  unfold Oper.wp execOp
  simp only [ho, resolve, invoke, builtin, Sem.run_bind, Sem.run_pure, Result.andThen_ok, List.map_toArray, List.map_cons, List.map_nil, hd, hs, hrun]
  exact hK _ _ h
theorem wpList_copy_zero {w : World} {ops : Array Oper} {rest : List Oper} {o : Oper} {a : Act} {Q : Exit → Act → World → Prop} (hgd : o.guard = none) (d s : Operand) (t : TypeId)
    (ho : o.op = .call { callee := .builtin .copy, args := #[d, s], argTypes := #[t, t] }) (e : TypeId) (i : TypeInfo) (ht : P.underlying t = some (.slice e)) (hq : P.info? e = some i)
    (dp sp : Option Addr) (dLen dCap sLen sCap : Nat) (hd : a.eval d = .slice dp dLen dCap) (hs : a.eval s = .slice sp sLen sCap) (hm : Nat.min sLen dLen = 0)
    (h : wpList P ops Q rest (a.put o.dst (goInt 0)) w) : wpList P ops Q (o :: rest) a w := by
  refine wpList_plain hgd fun K hK => ?_
  have hrun := run_copy_zero (P := P) w t t o.type e i dp sp dLen dCap sLen sCap ht hq hm
  unfold Oper.wp execOp
  simp only [ho, resolve, invoke, builtin, Sem.run_bind, Sem.run_pure, Result.andThen_ok, List.map_toArray, List.map_cons, List.map_nil, hd, hs, hrun]
  exact hK _ _ h
end
/-- a row, a stretch of it stored anew -/
theorem splice_rows {out : List Ls} {x : Ls} {k : Nat} (hk : k ≤ out.length) : ((out ++ [x]).take (k + 1) ++ out.drop k).set k x = out.take k ++ x :: out.drop k := by
  rcases Nat.lt_or_ge k out.length with h | h
  · rw [List.take_append_of_le_length (by omega), List.take_add_one, List.getElem?_eq_getElem h]
    simp only [Option.toList_some, List.append_assoc]
    rw [List.set_append_right _ _ (by rw [List.length_take]; omega)]
    rw [List.length_take, Nat.min_eq_left (by omega)]
    simp
  · have e : k = out.length := by omega
    subst e
    rw [List.take_of_length_le (by simp), List.drop_length, List.append_nil, List.set_append_right _ _ (Nat.le_refl _)]
    simp
/-! ### shifting -/
section
variable {P : Program}
theorem step_copy_many {w : World} {ops : Array Oper} {o : Oper} {a : Act} {K : Act → World → Prop} {Q : Exit → Act → World → Prop} {E : Prop} (hgd : o.guard = none) (d s : Operand) (t : TypeId)
    (ho : o.op = .call { callee := .builtin .copy, args := #[d, s], argTypes := #[t, t] }) (e : TypeId) (i : TypeInfo) (size : Nat) (ht : P.underlying t = some (.slice e)) (hq : P.info? e = some i) (hi : i.size = size)
    (g off dLen dCap : Nat) (ad : Addr) (sLen sCap m : Nat) (hd : a.eval d = .slice (some ⟨g, off, none⟩) dLen dCap) (hs : a.eval s = .slice (some ad) sLen sCap) (hm : m = Nat.min sLen dLen) (cs : List Value) (hn : cs.length = m * size)
    (hsrc : ∀ j v, cs[j]? = some v → w.cell? (ad.add j) = some v) (hc : ∀ j, j < cs.length → (w.cell? ⟨g, off + j, none⟩).isSome = true ∧ w.frozen? ⟨g, off + j, none⟩ = false) (h1 : ∀ v ∈ cs, v.oneCell' = true)
    (h : K (a.put o.dst (goInt m)) (w.setCells g off cs)) : if Region.wanted o (yielded ops a.tmps) = true then Oper.wp P o a w K Q else E := by
  have hw : Region.wanted o (yielded ops a.tmps) = true := by simp [Region.wanted, hgd]
  rw [if_pos hw]
  have hrun := run_copy_many (P := P) w t t o.type e i size g off dLen dCap ad sLen sCap m cs ht hq hi hm hn hsrc (fun j hj => (hc j hj).1) (fun j hj => (hc j hj).2) h1
  unfold Oper.wp execOp
  simp only [ho, resolve, invoke, builtin, Sem.run_bind, Sem.run_pure, Result.andThen_ok, List.map_toArray, List.map_cons, List.map_nil, hd, hs, hrun]
  exact h
theorem step_copy_zero {w : World} {ops : Array Oper} {o : Oper} {a : Act} {K : Act → World → Prop} {Q : Exit → Act → World → Prop} {E : Prop} (hgd : o.guard = none) (d s : Operand) (t : TypeId)
    (ho : o.op = .call { callee := .builtin .copy, args := #[d, s], argTypes := #[t, t] }) (e : TypeId) (i : TypeInfo) (ht : P.underlying t = some (.slice e)) (hq : P.info? e = some i)
    (dp sp : Option Addr) (dLen dCap sLen sCap : Nat) (hd : a.eval d = .slice dp dLen dCap) (hs : a.eval s = .slice sp sLen sCap) (hm : Nat.min sLen dLen = 0)
    (h : K (a.put o.dst (goInt 0)) w) : if Region.wanted o (yielded ops a.tmps) = true then Oper.wp P o a w K Q else E := by
  have hw : Region.wanted o (yielded ops a.tmps) = true := by simp [Region.wanted, hgd]
  rw [if_pos hw]
  have hrun := run_copy_zero (P := P) w t t o.type e i dp sp dLen dCap sLen sCap ht hq hm
  unfold Oper.wp execOp
  simp only [ho, resolve, invoke, builtin, Sem.run_bind, Sem.run_pure, Result.andThen_ok, List.map_toArray, List.map_cons, List.map_nil, hd, hs, hrun]
  exact h
end

section
variable {w : World} {g off cap n k : Nat} {L : List Ls} {x : Ls}
theorem rows4 (l : List Ls) : (l.flatMap Ls.row).length = l.length * 4 := flat_length Ls.row 4 l fun _ _ => rfl
theorem shift_row (hk : k ≤ L.length) (hn : n = L.length + 1) (h : Vec w 4 (.slice (some ⟨g, off, none⟩) n cap) n ((L ++ [x]).flatMap Ls.row)) : Vec (w.setCells g (off + (k + 1) * 4) ((L.drop k).flatMap Ls.row)) 4 (.slice (some ⟨g, off, none⟩) n cap) n (((L ++ [x]).take (k + 1) ++ L.drop k).flatMap Ls.row) := by
  have e1 : ((L.drop k).flatMap Ls.row).length = (L.length - k) * 4 := by rw [rows4, List.length_drop]
  have := h.put (o := (k + 1) * 4) (vs := (L.drop k).flatMap Ls.row) (by rw [e1]; omega)
  have hd : ((L ++ [x]).flatMap Ls.row).drop ((k + 1) * 4 + ((L.drop k).flatMap Ls.row).length) = [] := List.drop_eq_nil_of_le (by rw [e1, rows4, List.length_append, List.length_singleton]; omega)
  rw [flat_take Ls.row 4 _ _ (fun _ _ => rfl) (by simp; omega), hd, List.append_nil, ← List.flatMap_append] at this
  exact this
theorem shift_src (hk : k ≤ L.length) (h : Vec w 4 (.slice (some ⟨g, off, none⟩) n cap) n ((L ++ [x]).flatMap Ls.row)) : ∀ j v, ((L.drop k).flatMap Ls.row)[j]? = some v → w.cell? ((⟨g, off + k * 4, none⟩ : Addr).add j) = some v := by
  intro j v hv
  rw [add_mid' (⟨g, off + k * 4, none⟩) j rfl]
  have := h.range (k * 4 + j) v (by
    rw [← List.getElem?_drop, flat_drop Ls.row 4 _ _ (fun _ _ => rfl) (by simp; omega), List.drop_append_of_le_length hk, List.flatMap_append, List.getElem?_append_left (List.getElem?_eq_some_iff.1 hv).1]
    exact hv)
  rwa [← Nat.add_assoc] at this
theorem shift_free (hk : k ≤ L.length) (hn : n = L.length + 1) (h : Vec w 4 (.slice (some ⟨g, off, none⟩) n cap) n ((L ++ [x]).flatMap Ls.row)) : ∀ j, j < ((L.drop k).flatMap Ls.row).length → (w.cell? ⟨g, off + (k + 1) * 4 + j, none⟩).isSome = true ∧ w.frozen? ⟨g, off + (k + 1) * 4 + j, none⟩ = false := by
  intro j hj
  rw [rows4, List.length_drop] at hj
  rw [Nat.add_assoc]
  exact h.free (by omega)
theorem setRow4 {l : List Ls} (h : Vec w 4 (.slice (some ⟨g, off, none⟩) n cap) n (l.flatMap Ls.row)) (hk : k < l.length) (hn : n = l.length) (x0 : ByteArray) (x1 x2 x3 : Int) : Vec ((((w.setCell ⟨g, off + k * 4, none⟩ (.string x0)).setCell ⟨g, off + k * 4 + 1, none⟩ (.int .i64 x1)).setCell ⟨g, off + k * 4 + 2, none⟩ (.int .i64 x2)).setCell ⟨g, off + k * 4 + 3, none⟩ (.int .i64 x3)) 4 (.slice (some ⟨g, off, none⟩) n cap) n ((l.set k ⟨x0, x1, x2, x3⟩).flatMap Ls.row) :=
  h.setElem (fun y _ => rfl) hk hn ⟨x0, x1, x2, x3⟩ rfl
theorem four (w : World) (g o : Nat) (a b c d : Value) : Only (fun q => q = g) w ((((w.setCell ⟨g, o, none⟩ a).setCell ⟨g, o + 1, none⟩ b).setCell ⟨g, o + 2, none⟩ c).setCell ⟨g, o + 3, none⟩ d) :=
  ((((Only.refl (fun q => q = g) w).setCell (p := ⟨g, o, none⟩) rfl _).setCell (p := ⟨g, o + 1, none⟩) rfl _).setCell (p := ⟨g, o + 2, none⟩) rfl _).setCell (p := ⟨g, o + 3, none⟩) rfl _
end
end Go.Proofs.Ytfjfpnlcmjpofaa
