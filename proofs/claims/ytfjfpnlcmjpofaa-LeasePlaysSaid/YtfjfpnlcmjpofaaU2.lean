/- LeaseUnlike: the state, and its steps. -/
import Derived.Test.YtfjfpnlcmjpofaaU1
namespace Go.Proofs.Ytfjfpnlcmjpofaa
open Go.RowKit Go.Maps
set_option linter.unusedVariables false

/-- the numbers of lives that were -/
def Past (lives : List Nat) (k : Nat) (n : Int) : Prop := ∃ j l, j < k ∧ lives[j]? = some l ∧ ((l * 1048576 : Nat) : Int) < n ∧ n ≤ ((l * 1048576 + 1048575 : Nat) : Int)
structure OHead (w wr : World) (lv : Value) (G nG : Nat) (lives : List Nat) (k : Nat) (g : Int → Int) : Prop where
  only : Only None' w wr
  lrow : Vec wr 1 lv lives.length (lives.map fun x : Nat => Value.int .i64 (x : Int))
  g_ : IMap wr G nG g
  lvG : ∀ q, lv.ownBlock = some q → w.heap.size ≤ q ∧ q < G
  new : w.heap.size ≤ G
  old : ∀ n, g n ≠ 0 → n = 0 ∨ Past lives k n
  zero : 0 ≤ g 0 ∧ g 0 ≤ ((150 * k : Nat) : Int)
structure Lives (lives : List Nat) : Prop where
  nodup : lives.Nodup
  one : ∀ l ∈ lives, 1 ≤ l ∧ l ≤ 2047
  few : lives.length ≤ 2
structure OIn (w wr : World) (lv : Value) (G nG B M N : Nat) (lives : List Nat) (k i : Nat) (c : Tb) (g : Int → Int) : Prop where
  only : Only None' w wr
  lrow : Vec wr 1 lv lives.length (lives.map fun x : Nat => Value.int .i64 (x : Int))
  g_ : IMap wr G nG g
  lvG : ∀ q, lv.ownBlock = some q → w.heap.size ≤ q ∧ q < G
  new : w.heap.size ≤ G
  c_ : TabAt wr B M N c
  gb : G < B ∧ G < M ∧ G < N
  life : lives[k]? = some c.life
  old : ∀ n, g n ≠ 0 → n = 0 ∨ Past lives k n ∨ (((c.life * 1048576 : Nat) : Int) < n ∧ n ≤ (c.top : Int))
  zero : 0 ≤ g 0 ∧ g 0 ≤ ((150 * k + i : Nat) : Int)
section
variable {w wr w1 w2 w3 : World} {lv : Value} {G nG B M N k i : Nat} {lives : List Nat} {c : Tb} {g : Int → Int}
theorem OIn.new_ (h : OIn w wr lv G nG B M N lives k i c g) (o : Only None' wr w1) : OIn w w1 lv G nG B M N lives k i c g :=
  ⟨h.only.trans o, h.lrow.only o fun _ _ e => e, h.g_.only o fun e => e, h.lvG, h.new, h.c_.new o, h.gb, h.life, h.old, h.zero⟩
/-- a fresh number -/
theorem OIn.unseen (h : OIn w wr lv G nG B M N lives k i c g) (L : Lives lives) : g ((c.top + 1 : Nat) : Int) = 0 := by
  refine Classical.byContradiction fun hne => ?_
  rcases h.old _ hne with h0 | ⟨j, l, hj, hl, h1, h2⟩ | ⟨_, h2⟩
  · omega
  · have hlk := h.life
    have hg := h.c_.ok.g
    unfold Tb.top at h1 h2
    have : l ≠ c.life := fun e => by
      subst e
      have := (List.getElem?_inj (i := j) (j := k) (by have := (List.getElem?_eq_some_iff.1 hlk).1; omega) L.nodup).1 (hl.trans hlk.symm)
      omega
    rcases Nat.lt_or_gt_of_ne this with h3 | h3
    · have : (l + 1) * 1048576 ≤ c.life * 1048576 := Nat.mul_le_mul_right _ h3
      omega
    · have : (c.life + 1) * 1048576 ≤ l * 1048576 := Nat.mul_le_mul_right _ h3
      omega
  · omega
/-- all are cleared -/
theorem OIn.cleared {M' N' : Nat} (h : OIn w wr lv G nG B M N lives k i c g) (h1 : TabAt w1 B M' N' c.cleared) (hM : wr.heap.size ≤ M') (hN : wr.heap.size ≤ N') (o1 : Only (fun k => k = B) wr w1) : OIn w w1 lv G nG B M' N' lives k i c.cleared g := by
  have hws := h.only.size
  obtain ⟨gb1, gb2, gb3⟩ := h.gb
  have hG := h.g_.lt
  have hnew := h.new
  exact ⟨h.only.trans2 o1 fun q hq e => by omega, h.lrow.only o1 fun q hq e => by have := (h.lvG q hq).2; omega, h.g_.only o1 (by omega), h.lvG, h.new, h1, ⟨gb1, by omega, by omega⟩, h.life, h.old, h.zero⟩
/-- a number was given, and is put down -/
theorem OIn.gave {c' : Tb} {n : Int} (h : OIn w wr lv G nG B M N lives k i c g) (h1 : TabAt w1 B M N c') (e1 : c'.life = c.life) (e2 : c.given ≤ c'.given) (o1 : Only (fun k => k = B ∨ k = M) wr w1)
    (hg : IMap w2 G (nG + 1) (upd g n (g n + 1))) (o2 : Only (fun k => k = G) w1 w2) (hn : (n = 0) ∨ (((c.life * 1048576 : Nat) : Int) < n ∧ n ≤ (c'.top : Int))) :
    OIn w w2 lv G (nG + 1) B M N lives k (i + 1) c' (upd g n (g n + 1)) := by
  have hws := h.only.size
  obtain ⟨gb1, gb2, gb3⟩ := h.gb
  have hG := h.g_.lt
  have hnew := h.new
  have hl : ∀ q, lv.ownBlock = some q → q < G := fun q hq => (h.lvG q hq).2
  have htop : (c.top : Int) ≤ (c'.top : Int) := by unfold Tb.top; rw [e1]; omega
  refine ⟨(h.only.trans2 o1 fun q hq e => by omega).trans2 o2 fun q hq e => by omega, (h.lrow.only o1 fun q hq e => by have := hl q hq; omega).only o2 fun q hq e => by have := hl q hq; omega, hg, h.lvG, h.new, h1.only o2 (by omega) (by omega) (by omega), h.gb, by rw [e1]; exact h.life, fun m hm => ?_, ?_⟩
  · unfold upd at hm
    by_cases e : m = n
    · subst e
      rcases hn with hn | hn
      · exact Or.inl hn
      · exact Or.inr (Or.inr ⟨by rw [e1]; exact hn.1, hn.2⟩)
    · rw [if_neg e] at hm
      rcases h.old m hm with h2 | h2 | ⟨h2, h3⟩
      · exact Or.inl h2
      · exact Or.inr (Or.inl h2)
      · exact Or.inr (Or.inr ⟨by rw [e1]; exact h2, by omega⟩)
  · have hz := h.zero
    unfold upd
    by_cases e : (0 : Int) = n
    · subst e
      rw [if_pos rfl]
      omega
    · rw [if_neg e]
      omega
theorem OIn.head (h : OIn w wr lv G nG B M N lives k i c g) (hi : i ≤ 150) : OHead w wr lv G nG lives (k + 1) g := by
  refine ⟨h.only, h.lrow, h.g_, h.lvG, h.new, fun n hn => ?_, by have := h.zero; omega⟩
  rcases h.old n hn with h0 | ⟨j, l, hj, hl, h1⟩ | ⟨h1, h2⟩
  · exact Or.inl h0
  · exact Or.inr ⟨j, l, by omega, hl, h1⟩
  · refine Or.inr ⟨k, c.life, by omega, h.life, h1, ?_⟩
    have := h.c_.ok.g
    unfold Tb.top at h2
    omega
end
end Go.Proofs.Ytfjfpnlcmjpofaa
