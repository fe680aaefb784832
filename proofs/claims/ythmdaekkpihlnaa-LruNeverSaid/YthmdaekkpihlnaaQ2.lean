/- The document's shelf: Bytes, Drop. -/
import Derived.Test.YthmdaekkpihlnaaQ1
namespace Go.Proofs.Ythmdaekkpihlnaa
open Go.RowKit
set_option linter.unusedVariables false

structure Ref (w : World) (X : Nat) (E Y : Int) (v : Value) (L : List Ent) : Prop where
  c0 : w.cell? ⟨X, 0, none⟩ = some (.int .i64 E)
  c1 : w.cell? ⟨X, 1, none⟩ = some (.int .i64 Y)
  c2 : w.cell? ⟨X, 2, none⟩ = some v
  thaw : ∀ o, w.frozen? ⟨X, o, none⟩ = false
  ltX : X < w.heap.size
  vec : Vec w 4 v L.length (cellsOf L)
  apart : v.ownBlock ≠ some X
  small : ∀ e ∈ L, e.key.size ≤ 140737488355328 ∧ e.val.size ≤ 140737488355328
  few : L.length ≤ 1000

def OwnR (X : Nat) (v : Value) (k : Nat) : Prop := k = X ∨ v.ownBlock = some k

theorem Ref.only {w w' : World} {X : Nat} {E Y : Int} {v : Value} {L : List Ent} (R : Ref w X E Y v L) {T : Nat → Prop} (h : Only T w w') (hT : ∀ k, OwnR X v k → ¬ T k) : Ref w' X E Y v L := by
  have hX : ¬ T X := hT X (.inl rfl)
  have c (i : Nat) := h.cell R.ltX hX i
  exact ⟨(c 0).trans R.c0, (c 1).trans R.c1, (c 2).trans R.c2, fun o => (h.frozen R.ltX hX o).trans (R.thaw o), Nat.lt_of_lt_of_le R.ltX h.size, R.vec.only h fun g hg => hT g (.inr hg), R.apart, R.small, R.few⟩
theorem Ref.drewN {w : World} {X : Nat} {E Y : Int} {v : Value} {L : List Ent} (R : Ref w X E Y v L) (n : Nat) : Ref (w.drewN n) X E Y v L := R.only ((Only.refl None' w).drewN n) fun _ _ h => h
theorem Ref.alloc {w : World} {X : Nat} {E Y : Int} {v : Value} {L : List Ent} (R : Ref w X E Y v L) (o : Obj) : Ref (w.alloc o) X E Y v L := R.only ((Only.refl None' w).alloc o) fun _ _ h => h
theorem Ref.lt {w : World} {X : Nat} {E Y : Int} {v : Value} {L : List Ent} (R : Ref w X E Y v L) {k : Nat} (h : OwnR X v k) : k < w.heap.size := by
  rcases h with rfl | h
  · exact R.ltX
  · exact R.vec.lt h

theorem cellsOf_append (p q : List Ent) : cellsOf (p ++ q) = cellsOf p ++ cellsOf q := by simp [cellsOf]
theorem cellsOf_length : ∀ l : List Ent, (cellsOf l).length = l.length * 4
  | [] => rfl
  | x :: r => by
    show (x.cells ++ cellsOf r).length = _
    rw [List.length_append, cellsOf_length r, List.length_cons]
    simp [Ent.cells]; omega
theorem cellsOf_at : ∀ (l : List Ent) (k i : Nat) (hk : k < l.length), i < 4 → (cellsOf l)[k * 4 + i]? = (l[k]).cells[i]?
  | x :: r, 0, i, hk, hi => by
    show (x.cells ++ cellsOf r)[0 * 4 + i]? = x.cells[i]?
    rw [List.getElem?_append_left (by simp [Ent.cells]; omega)]
    simp
  | x :: r, k + 1, i, hk, hi => by
    show (x.cells ++ cellsOf r)[(k + 1) * 4 + i]? = _
    rw [List.getElem?_append_right (by simp [Ent.cells]; omega)]
    have e : (k + 1) * 4 + i - x.cells.length = k * 4 + i := by simp [Ent.cells]; omega
    rw [e, cellsOf_at r k i (by simpa using hk) hi]
    simp

/-- the cells of an element -/
structure At4 (w : World) (g o : Nat) (e : Ent) : Prop where
  k0 : w.cell? ⟨g, o, none⟩ = some (.string e.key)
  k1 : w.cell? ⟨g, o + 1, none⟩ = some (.string e.val)
  k2 : w.cell? ⟨g, o + 2, none⟩ = some (.int .i64 e.til)
  k3 : w.cell? ⟨g, o + 3, none⟩ = some (.int .i64 e.gra)

theorem at4 {w : World} {g off : Nat} {L : List Ent} (h : ∀ j u, (cellsOf L)[j]? = some u → w.cell? ⟨g, off + j, none⟩ = some u) {k : Nat} (hk : k < L.length) : At4 w g (off + k * 4) L[k] := by
  have c (i : Nat) (hi : i < 4) (u : Value) (hu : (L[k]).cells[i]? = some u) := h (k * 4 + i) u (by rw [cellsOf_at L k i hk hi]; exact hu)
  refine ⟨c 0 (by decide) _ rfl, ?_, ?_, ?_⟩
  · rw [Nat.add_assoc]; exact c 1 (by decide) _ rfl
  · rw [Nat.add_assoc]; exact c 2 (by decide) _ rfl
  · rw [Nat.add_assoc]; exact c 3 (by decide) _ rfl

theorem pbytes_append (p q : List Ent) : pbytes (p ++ q) = pbytes p + pbytes q := by simp [pbytes]
theorem pbytes_le : ∀ (l : List Ent), (∀ e ∈ l, e.key.size ≤ 140737488355328 ∧ e.val.size ≤ 140737488355328) → pbytes l ≤ l.length * 281474976710656
  | [], _ => by simp [pbytes]
  | x :: q, h => by
    have ih := pbytes_le q fun y hy => h y (by simp [hy])
    have hx := h x (by simp)
    have e : pbytes (x :: q) = (x.key.size + x.val.size) + pbytes q := by simp [pbytes]
    rw [e, List.length_cons]
    omega
theorem take_snocE {l : List Ent} {k : Nat} (hk : k < l.length) : l.take (k + 1) = l.take k ++ [l[k]] := by
  rw [List.take_succ_eq_append_getElem hk]

set_option maxRecDepth 8000 in
theorem bytes30 {w : World} {X : Nat} {E Y : Int} {v : Value} {L : List Ent} (R : Ref w X E Y v L) :
    Calls Try.prog 30 #[.pointer (some ⟨X, 0, none⟩)] w fun r w' => r = .returned (.int .i64 (pbytes L : Int)) ∧ ∃ q, w' = w.drewN q := by
  obtain ⟨a, cap, rfl, hcap, hmax⟩ := R.vec.shape
  have RR := Lib.hid R
  have c2 := R.c2
  have hfew := R.few
  have HS := Lib.hid R.small
  have HV := Lib.hid R.vec
  clear R
  go_enter Try.func30, Try.ntmps30
  go_wp2
  go_loopw [3, 4] (fun n i wr => ∃ k q : Nat, k ≤ L.length ∧ i = .int .i64 k ∧ n = .int .i64 (pbytes (L.take k) : Int) ∧ wr = w.drewN q) (fun n i wr => L.length - (intOf i).toNat)
  case atStart => exact ⟨0, 0, by omega, rfl, rfl, rfl⟩
  case round =>
    obtain ⟨k, q, hk, rfl, rfl, rfl⟩ := hrel
    by_cases hlt : k < L.length
    · rcases HV.out.form with ⟨h1, h2⟩ | ⟨g, off, cap', h1, h2, h3, h4, h5, h6⟩
      · omega
      · simp only [Value.slice.injEq] at h1
        obtain ⟨rfl, _, rfl⟩ := h1
        have hA := at4 h5 hlt
        have k0 := hA.k0
        have k1 := hA.k1
        have i0 : (0 : Int) ≤ (k : Int) := by omega
        have i1 : (k : Int) < (L.length : Int) := by omega
        have hb := pbytes_le (L.take (k + 1)) (fun e he => HS.out e (List.mem_of_mem_take he))
        have hl : (L.take (k + 1)).length ≤ 1000 := Nat.le_trans (List.length_take_le' _ _) hfew
        have e1 : pbytes (L.take (k + 1)) = pbytes (L.take k) + (L[k].key.size + L[k].val.size) := by
          rw [take_snocE hlt, pbytes_append]; simp [pbytes]
        have b1 : pbytes (L.take k) + (L[k].key.size + L[k].val.size) ≤ 1000 * 281474976710656 := by rw [← e1]; exact Nat.le_trans hb (Nat.mul_le_mul_right _ hl)
        have E1 := Lib.hid e1
        have B1 := Lib.hid b1
        clear hA h5 h6 hb hl e1 b1
        go_wp2_with fail
        go_quiet (fail)
        go_wp2
        go_roundw
        case rel =>
          have b := B1.out
          refine ⟨k + 1, q + nq, by omega, by go_num, ?_, rfl⟩
          rw [IntWalk.wrap64_in ((pbytes (L.take k) : Int) + (L[k].key.size : Int)) (by omega), IntWalk.wrap64_in (_ + _) (by omega), E1.out]
          congr 1
          omega
        case measure => simp [intOf]; omega
    · have : k = L.length := by omega
      subst this
      go_wp2
      go_ret
      refine ⟨?_, q, rfl⟩
      simp only [List.take_length]
      rfl

end Go.Proofs.Ythmdaekkpihlnaa
