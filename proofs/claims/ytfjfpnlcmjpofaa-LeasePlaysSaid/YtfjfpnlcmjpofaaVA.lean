/- LeasePlays: the law's state, and its steps. -/
import Derived.Test.YtfjfpnlcmjpofaaPI
namespace Go.Proofs.Ytfjfpnlcmjpofaa
open Go.RowKit Go.Maps Go.Sort Go.Shelf
set_option linter.unusedVariables false

/-- the table and the document's, side by side; the numbers given so far -/
structure LSt (w wr : World) (B M N X : Nat) (lv sv gv : Value) (nums : List Int) (c : Tb) (j : Nat) : Prop where
  only : Only None' w wr
  c_ : TabAt wr B M N c
  d_ : DocAt wr X lv sv c
  g_ : Vec wr 1 gv nums.length (nums.map (Value.int .i64))
  new : w.heap.size ≤ B ∧ w.heap.size ≤ M ∧ w.heap.size ≤ N ∧ w.heap.size ≤ X
  apart : X ≠ B ∧ X ≠ M ∧ X ≠ N
  lv_ : ∀ q, lv.ownBlock = some q → w.heap.size ≤ q ∧ q ≠ B ∧ q ≠ M ∧ q ≠ N
  sv_ : ∀ q, sv.ownBlock = some q → w.heap.size ≤ q ∧ q ≠ B ∧ q ≠ M ∧ q ≠ N
  gv_ : ∀ q, gv.ownBlock = some q → w.heap.size ≤ q ∧ q ≠ B ∧ q ≠ M ∧ q ≠ N ∧ q ≠ X ∧ lv.ownBlock ≠ some q ∧ sv.ownBlock ≠ some q
  cnt : c.cnt ≤ j
  few : nums.length ≤ j
section
variable {w wr w1 w2 : World} {B M N X j j' : Nat} {lv sv gv lv' sv' : Value} {nums : List Int} {c c' : Tb}
theorem LSt.new_ (h : LSt w wr B M N X lv sv gv nums c j) (o : Only None' wr w1) : LSt w w1 B M N X lv sv gv nums c j :=
  ⟨h.only.trans o, h.c_.new o, h.d_.new o, h.g_.only o fun _ _ e => e, h.new, h.apart, h.lv_, h.sv_, h.gv_, h.cnt, h.few⟩
theorem LSt.later (h : LSt w wr B M N X lv sv gv nums c j) (hj : j ≤ j') : LSt w wr B M N X lv sv gv nums c j' :=
  ⟨h.only, h.c_, h.d_, h.g_, h.new, h.apart, h.lv_, h.sv_, h.gv_, Nat.le_trans h.cnt hj, Nat.le_trans h.few hj⟩
/-- the document's table as it stands behind a call on the table -/
theorem LSt.doc (h : LSt w wr B M N X lv sv gv nums c j) (o : Only (fun k => k = B ∨ k = M ∨ k = N) wr w1) : DocAt w1 X lv sv c :=
  h.d_.only o (by have := h.apart; omega) (fun q hq e => by have := h.lv_ q hq; omega) fun q hq e => by have := h.sv_ q hq; omega
/-- both tables went the same step -/
theorem LSt.both (h : LSt w wr B M N X lv sv gv nums c j) (h1 : TabAt w1 B M N c') (o1 : Only (fun k => k = B ∨ k = M ∨ k = N) wr w1)
    (h2 : DocAt w2 X lv' sv' c') (o2 : Only (fun k => k = X ∨ lv.ownBlock = some k ∨ sv.ownBlock = some k) w1 w2)
    (hl : ∀ q, lv'.ownBlock = some q → lv.ownBlock = some q ∨ sv.ownBlock = some q ∨ w1.heap.size ≤ q) (hs : ∀ q, sv'.ownBlock = some q → lv.ownBlock = some q ∨ sv.ownBlock = some q ∨ w1.heap.size ≤ q)
    (hc : c'.cnt ≤ j + 1) : LSt w w2 B M N X lv' sv' gv nums c' (j + 1) := by
  obtain ⟨a1, a2, a3⟩ := h.apart
  have hn := h.new
  have hsz := o1.size
  have hsz0 := h.only.size
  have hB := h1.cells.lt
  have hM := h1.lt.1
  have hN := h1.lt.2
  have hX := h.d_.cells.lt
  have hfr : ∀ q, (lv.ownBlock = some q ∨ sv.ownBlock = some q ∨ w1.heap.size ≤ q) → w.heap.size ≤ q ∧ q ≠ B ∧ q ≠ M ∧ q ≠ N := fun q hq => by
    rcases hq with hq | hq | hq
    · exact h.lv_ q hq
    · exact h.sv_ q hq
    · omega
  have hg : ∀ q, gv.ownBlock = some q → ∀ v : Value, (v.ownBlock = some q → lv.ownBlock = some q ∨ sv.ownBlock = some q ∨ w1.heap.size ≤ q) → v.ownBlock ≠ some q := fun q hq v hv e => by
    have g1 := h.gv_ q hq
    rcases hv e with h3 | h3 | h3
    · exact g1.2.2.2.2.2.1 h3
    · exact g1.2.2.2.2.2.2 h3
    · have := h.g_.lt hq; omega
  refine ⟨?_, ?_, h2, ?_, hn, h.apart, fun q hq => hfr q (hl q hq), fun q hq => hfr q (hs q hq), fun q hq => ?_, hc, Nat.le_succ_of_le h.few⟩
  · refine (h.only.trans2 o1 fun k hk e => by omega).trans2 o2 fun k hk e => ?_
    rcases e with e | e | e
    · omega
    · have := h.lv_ k e; omega
    · have := h.sv_ k e; omega
  · refine h1.only o2 ?_ ?_ ?_
    all_goals (
      rintro (e | e | e)
      · omega
      · have := h.lv_ _ e; omega
      · have := h.sv_ _ e; omega)
  · refine (h.g_.only o1 fun q hq e => by have := h.gv_ q hq; omega).only o2 fun q hq e => ?_
    have g1 := h.gv_ q hq
    rcases e with e | e | e
    · exact g1.2.2.2.2.1 e
    · exact g1.2.2.2.2.2.1 e
    · exact g1.2.2.2.2.2.2 e
  · have g1 := h.gv_ q hq
    exact ⟨g1.1, g1.2.1, g1.2.2.1, g1.2.2.2.1, g1.2.2.2.2.1, hg q hq lv' (hl q), hg q hq sv' (hs q)⟩
end
end Go.Proofs.Ytfjfpnlcmjpofaa
