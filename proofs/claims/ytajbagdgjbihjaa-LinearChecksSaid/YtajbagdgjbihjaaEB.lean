/- The document's Of (22): the walk. -/
import Derived.Test.YtajbagdgjbihjaaEA
import Derived.Test.YtajbagdgjbihjaaE7
namespace Go.Proofs.Ytajbagdgjbihjaa
open Go.RowKit Go.Maps Go.Sort
set_option linter.unusedVariables false

/-- the marked row, in a world -/
structure MR (w wr : World) (B n : Nat) (U : List Bool) : Prop where
  only : Only None' w wr
  row : Vec wr 1 (.slice (some ⟨B, 0, none⟩) n n) n (bls U)
  new : w.heap.size ≤ B
theorem MR.set {w wr : World} {B n k : Nat} {U : List Bool} (h : MR w wr B n U) (hk : k < n) (b : Bool) : MR w (wr.setCell ⟨B, k, none⟩ (.bool b)) B n (U.set k b) := by
  refine ⟨h.only.setNew h.new _ _, ?_, h.new⟩
  have := h.row.set1 hk (.bool b)
  unfold bls at *
  rwa [List.map_set]
theorem MR.drewN {w wr : World} {B n : Nat} {U : List Bool} (h : MR w wr B n U) (q : Nat) : MR w (wr.drewN q) B n U := ⟨h.only.drewN q, h.row.drewN q, h.new⟩
theorem MR.grown {w wr w1 : World} {B n : Nat} {U : List Bool} (h : MR w wr B n U) {o : Only None' wr w1} : MR w w1 B n U := ⟨h.only.trans o, h.row.only o fun _ _ e => e, h.new⟩
theorem MR.at_ {w wr : World} {B n k : Nat} {U : List Bool} (h : MR w wr B n U) {b : Bool} (hb : U[k]? = some b) : wr.cell? ⟨B, k, none⟩ = some (.bool b) := by
  have hl := (List.getElem?_eq_some_iff.1 hb).1
  have h2 := h.row.len
  unfold bls at h2
  rw [List.length_map, Nat.mul_one] at h2
  obtain ⟨g, off, c, e, _, _, _, h4, _⟩ := h.row.at_ (by omega)
  injection e with e
  injection e with e
  injection e with e1 e2
  subst e1 e2
  have := h4 k (.bool b) (by unfold bls; rw [List.getElem?_map, hb]; rfl)
  rwa [Nat.zero_add] at this
/-- what the third loop has picked -/
structure PR (w wr : World) (B n : Nat) (U : List Bool) (key : ByteArray) (l : List Ev) (j : Nat) (v : Value) : Prop where
  mr : MR w wr B n U
  row : Vec wr 12 v (ofl key (l.take j)).length ((ofl key (l.take j)).flatMap Ev.row)
  fresh : ∀ g, v.ownBlock = some g → w.heap.size ≤ g ∧ g ≠ B
  here : B < wr.heap.size
section
variable {w wr wb : World} {B n j m : Nat} {U : List Bool} {key : ByteArray} {l : List Ev} {v v' : Value} {e : Ev} {o : Obj}
theorem PR.skip (h : PR w wr B n U key l j v) (he : l[j]? = some e) (hs : (if e.back then opn key (l.take j) e.who else e.hit key) = false) : PR w wr B n U key l (j + 1) v := by
  have ho : ofl key (l.take (j + 1)) = ofl key (l.take j) := by rw [ofl_succ he, hs]; simp
  exact ⟨h.mr, by rw [ho]; exact h.row, h.fresh, h.here⟩
theorem PR.pick (h : PR w wr B n U key l j v) (he : l[j]? = some e) (hs : (if e.back then opn key (l.take j) e.who else e.hit key) = true) (hm : m = (ofl key (l.take j)).length)
    (hv : Vec wb 12 v' (m + 1) ((ofl key (l.take j)).flatMap Ev.row ++ e.row)) (hg : (wr.alloc o).grownBy wb v.ownBlock) (hf : ∀ k, v'.ownBlock = some k → v.ownBlock = some k ∨ (wr.alloc o).heap.size ≤ k) : PR w wb B n U key l (j + 1) v' := by
  subst hm
  have ho : ofl key (l.take (j + 1)) = ofl key (l.take j) ++ [e] := by rw [ofl_succ he, hs]; simp
  have o2 : Only (fun q => v.ownBlock = some q) wr wb := ((Only.refl _ wr).alloc o).grown hg fun k hk => hk
  refine ⟨⟨h.mr.only.trans2 o2 fun k hk e => by have := (h.fresh k e).1; omega, h.mr.row.only o2 fun g hg e => ?_, h.mr.new⟩, ?_, fun g hg' => ?_, Nat.lt_of_lt_of_le h.here o2.size⟩
  · injection hg with hg
    exact (h.fresh g e).2 hg.symm
  · rw [ho, List.length_append, List.flatMap_append]
    simpa using hv
  · rcases hf g hg' with e1 | e1
    · exact h.fresh g e1
    · simp at e1
      have h1 := h.mr.only.size
      have h2 := h.here
      exact ⟨by omega, by omega⟩
end
end Go.Proofs.Ytajbagdgjbihjaa
