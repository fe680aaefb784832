/- Contract of remove. -/
import Derived.Test.YtfmpidacklhmaaaU7
namespace Go.Proofs.Ytfmpidacklhmaaa.Lru
open Go.RowKit Go.Maps
set_option linter.unusedVariables false
set_option maxRecDepth 20000

theorem bytesOf_append (p q : List Node) : bytesOf (p ++ q) = bytesOf p + bytesOf q := by simp [bytesOf]
theorem bytesOf_cons (x : Node) (q : List Node) : bytesOf (x :: q) = (x.2.key.size + x.2.val.size) + bytesOf q := by simp [bytesOf]
theorem bytesOf_le : ∀ (l : List Node), (∀ y ∈ l, y.2.key.size ≤ 140737488355328 ∧ y.2.val.size ≤ 140737488355328) → bytesOf l ≤ l.length * 281474976710656
  | [], _ => by simp [bytesOf]
  | x :: q, h => by
    have ih := bytesOf_le q fun y hy => h y (by simp [hy])
    have hx := h x (by simp)
    rw [bytesOf_cons, List.length_cons]
    omega

theorem owns_same {w w' : World} {k : TypeId} {R : Value → Option (DataW Unit × List MemPlace)} {b n : Nat} {D : DataW Unit} (h : w.ownsMap Try.prog k R b n D) (hb : w'.heap[b]? = w.heap[b]?) : w'.ownsMap Try.prog k R b n D := by
  obtain ⟨es, c, h1, r⟩ := h
  exact ⟨es, c, hb.trans h1, r⟩
theorem owns_tight {w : World} {k : TypeId} {R : Value → Option (DataW Unit × List MemPlace)} {b n : Nat} {D : DataW Unit} (h : w.ownsMap Try.prog k R b n D) : w.ownsMap Try.prog k R b (Maps.size D) D := by
  obtain ⟨es, c, h1, F, h2, rfl⟩ := h
  refine ⟨es, c, h1, F, ?_, rfl⟩
  simp [Maps.size, length_sorted]

theorem Row.move {m : Nat} {w w' : World} {B M : Nat} {l : List Node} (h : Row m w B M l) (hs : w.heap.size ≤ w'.heap.size) (hk : ∀ k ∈ nums l, w'.heap[k]? = w.heap[k]?)
    (c2 : w'.cell? ⟨B, 2, none⟩ = w.cell? ⟨B, 2, none⟩) (c3 : w'.cell? ⟨B, 3, none⟩ = w.cell? ⟨B, 3, none⟩) (hf : ∀ o, w'.frozen? ⟨B, o, none⟩ = w.frozen? ⟨B, o, none⟩) : Row m w' B M l :=
  ⟨c2.trans h.front, c3.trans h.last, h.seg.kept fun y hy => hk y.1 (List.mem_map.2 ⟨y, hy, rfl⟩), h.nodup, fun k hk' => by obtain ⟨a, b, c, d⟩ := h.mine k hk'; exact ⟨a, by omega, c, d⟩,
    h.mB, h.mM, h.BM, Nat.lt_of_lt_of_le h.ltB hs, fun o => (hf o).trans (h.thaw o)⟩

/-- the world behind the number of bytes was written -/
theorem used_world {w1 : World} {B : Nat} {v : Value} (o : Obj) (nn : Nat) (hB : B < w1.heap.size) :
    (∀ k, k < w1.heap.size → k ≠ B → (((w1.setCell ⟨B, 5, none⟩ v).alloc o).drewN nn).heap[k]? = w1.heap[k]?) ∧
    (∀ i, i ≠ 5 → (((w1.setCell ⟨B, 5, none⟩ v).alloc o).drewN nn).cell? ⟨B, i, none⟩ = w1.cell? ⟨B, i, none⟩) ∧
    ((∃ u, w1.cell? ⟨B, 5, none⟩ = some u) → (((w1.setCell ⟨B, 5, none⟩ v).alloc o).drewN nn).cell? ⟨B, 5, none⟩ = some v) ∧
    (∀ i, (((w1.setCell ⟨B, 5, none⟩ v).alloc o).drewN nn).frozen? ⟨B, i, none⟩ = w1.frozen? ⟨B, i, none⟩) ∧
    Only (fun k => k = B) w1 (((w1.setCell ⟨B, 5, none⟩ v).alloc o).drewN nn) := by
  have hs : (w1.setCell ⟨B, 5, none⟩ v).heap.size = w1.heap.size := heap_size_setCell _ _ _
  have hc (i : Nat) : (((w1.setCell ⟨B, 5, none⟩ v).alloc o).drewN nn).cell? ⟨B, i, none⟩ = (w1.setCell ⟨B, 5, none⟩ v).cell? ⟨B, i, none⟩ :=
    World.cell?_alloc_lt _ _ _ (by rw [hs]; exact hB)
  refine ⟨fun k hk hne => ?_, fun i hi => ?_, fun ⟨u, hu⟩ => ?_, fun i => ?_, (((Only.refl (fun k => k = B) w1).setCell (p := ⟨B, 5, none⟩) rfl v).alloc o).drewN nn⟩
  · show ((w1.setCell ⟨B, 5, none⟩ v).alloc o).heap[k]? = _
    rw [Below.heap_alloc _ _ _ (by rw [hs]; exact hk)]
    exact Below.heap_setCell _ _ _ _ hne
  · rw [hc, World.cell?_setCell_other _ _ _ _ (off_ne fun e => hi e.symm)]
  · rw [hc]; exact World.cell?_setCell_same _ _ _ hu
  · show ((w1.setCell ⟨B, 5, none⟩ v).alloc o).frozen? _ = _
    rw [World.frozen?_alloc_old _ _ _ (by simp only [hs]; omega), World.frozen?_setCell]

theorem Only.cell {S : Nat → Prop} {w w' : World} (h : Only S w w') {b : Nat} (hb : b < w.heap.size) (hn : ¬ S b) (i : Nat) : w'.cell? ⟨b, i, none⟩ = w.cell? ⟨b, i, none⟩ :=
  World.cell?_of_block (w := w) (a := ⟨b, i, none⟩) (h.block b hb hn)
theorem Only.frozen {S : Nat → Prop} {w w' : World} (h : Only S w w') {b : Nat} (hb : b < w.heap.size) (hn : ¬ S b) (i : Nat) : w'.frozen? ⟨b, i, none⟩ = w.frozen? ⟨b, i, none⟩ :=
  World.frozen?_of_block (w := w) (a := ⟨b, i, none⟩) (h.block b hb hn)

theorem Shelf.ltM {m : Nat} {w : World} {B M : Nat} {E Y : Int} {l : List Node} (S : Shelf m w B M E Y l) : M < w.heap.size := by
  obtain ⟨D, h, _⟩ := S.map
  exact h.lt

theorem remove_any {m : Nat} {w : World} {B M : Nat} {E Y : Int} {p : List Node} {x : Node} {q : List Node} (S : Shelf m w B M E Y (p ++ x :: q)) :
    Calls Try.prog 30 #[.pointer (some ⟨B, 0, none⟩), .pointer (some ⟨x.1, 0, none⟩)] w fun r w' => r = .returned (.tuple #[]) ∧ Shelf m w' B M E Y (p ++ q) ∧ Only (Own B M (p ++ x :: q)) w w' := by
  obtain ⟨D, hown, hD⟩ := S.map
  have hx := S.row.mine x.1 (by simp [nums])
  have hsm := S.small x (by simp)
  have hM : M ∉ nums (p ++ x :: q) := fun h => (S.row.mine M h).2.2.2 rfl
  have hb := bytesOf_le _ S.small
  have hfew := S.few
  have hsum : bytesOf (p ++ x :: q) = bytesOf (p ++ q) + (x.2.key.size + x.2.val.size) := by simp only [bytesOf_append, bytesOf_cons]; omega
  refine (remove_walk w (fun w' => Row m w' B M (p ++ q) ∧ Rowed w w' B (nums (p ++ x :: q)) ∧ Link w' x.1 x.2 (lst p none) (hd q none)) B M x.1 (p ++ x :: q).length x.2 D (bytesOf (p ++ x :: q) : Int)
    (cut_any S.row) ?_ (fun e => S.row.BM e.symm) (fun e => hx.2.2.2 e.symm) hsm.1 hsm.2 ⟨by omega, by omega⟩).mono ?_
  · rintro w' ⟨R, hR, L⟩
    have hr := S.rest.rowed hR
    exact ⟨hr.at_, hr.used, L.key, L.val, L.til, L.gra, owns_same hown (hR.only.block M hown.lt (fun e => e.elim (fun e => S.row.BM e.symm) hM)), R.ltB, by rw [hR.same]; exact hx.2.1, R.thaw⟩
  · rintro r w' ⟨rfl, w1, ⟨R, hR, L⟩, w2, o, nn, ho, hO, rfl⟩
    have hr := S.rest.rowed hR
    have hBM : ¬ B = M := S.row.BM
    have lB2 : B < w2.heap.size := Nat.lt_of_lt_of_le R.ltB hO.size
    obtain ⟨u1, u2, u3, u4, u5⟩ := used_world (v := .int .i64 ((bytesOf (p ++ x :: q) : Int) - ((x.2.key.size : Int) + (x.2.val.size : Int)))) o nn lB2
    have cB (i : Nat) : w2.cell? ⟨B, i, none⟩ = w1.cell? ⟨B, i, none⟩ := hO.cell R.ltB hBM i
    have hD' := hD.del
    refine ⟨rfl, ⟨R.move ?_ ?_ ((u2 2 (by decide)).trans (cB 2)) ((u2 3 (by decide)).trans (cB 3)) (fun i => (u4 i).trans (hO.frozen R.ltB hBM i)), ⟨?_, ?_, ?_, ?_⟩, ⟨_, ?_, hD'⟩, ?_, ?_⟩, ?_⟩
    · exact Nat.le_trans hO.size u5.size
    · intro k hk
      obtain ⟨_, a, b, c⟩ := R.mine k hk
      rw [u1 k (Nat.lt_of_lt_of_le a hO.size) b, hO.block k a c]
    · rw [u2 0 (by decide), cB]; exact hr.ent
    · rw [u2 1 (by decide), cB]; exact hr.byt
    · rw [u2 4 (by decide), cB]; exact hr.at_
    · rw [u3 ⟨_, (cB 5).trans hr.used⟩]
      congr 2
      omega
    · rw [← hD'.size]
      exact owns_tight (owns_same ho (u1 M ho.lt fun e => hBM e.symm))
    · intro y hy
      refine S.small y ?_
      rcases List.mem_append.1 hy with hy | hy <;> simp [hy]
    · simp at hfew ⊢; omega
    · refine ((hR.only.mono ?_).trans (hO.mono ?_)).trans (u5.mono ?_)
      · rintro k _ (e | e)
        · exact .inl e
        · exact .inr (.inr e)
      · rintro k _ e; exact .inr (.inl e)
      · rintro k _ e; exact .inl e

end Go.Proofs.Ytfmpidacklhmaaa.Lru
