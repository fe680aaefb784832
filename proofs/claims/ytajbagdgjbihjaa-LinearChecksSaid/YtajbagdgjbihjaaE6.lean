/- The document's Keys (16): the walk. -/
import Derived.Test.YtajbagdgjbihjaaC1
import Derived.Test.YtajbagdgjbihjaaP3
import Derived.Sort.EncStr
namespace Go.Proofs.Ytajbagdgjbihjaa
open Go.RowKit Go.Maps
set_option linter.unusedVariables false

theorem under45 : Try.prog.underlying 45 = some (.slice 9) := by kernel_rfl
theorem info9 : (Try.prog.info? 9).map (fun i => (i.zero, i.size, i.bytes)) = some (some (.string ⟨#[]⟩), 1, 16) := by kernel_rfl
theorem enc_k (e : ByteArray) : encStr e.data.toList = .string e := by cases e; rfl
/-- a row's head, a row's tail: they may be read -/
theorem Vec.head {w : World} {size n c : Nat} {ad : Addr} {xs : List Value} (h : Vec w size (.slice (some ad) n c) n xs) {k : Nat} (hk : k ≤ n) : Rd w size (.slice (some ad) k c) k (xs.take (k * size)) := by
  obtain ⟨a, cap, e, h1, h2⟩ := h.shape
  injection e with e1 e2 e3
  subst e3
  rcases h.form with ⟨h3, _⟩ | ⟨g, off, cap, e4, _, _, _, h4, _⟩
  · cases h3
  · injection e4 with e4 _ e5
    injection e4 with e4
    subst e4 e5
    refine ⟨by rw [List.length_take, h.len]; exact Nat.min_eq_left (Nat.mul_le_mul_right _ hk), .inr ⟨_, _, rfl, by omega, h2, fun j u hu => ?_⟩⟩
    rw [add_mid' (⟨g, off, none⟩) j rfl]
    rw [List.getElem?_take] at hu
    split at hu
    · exact h4 j u hu
    · cases hu
/-- the keys that the document has put in -/
structure DK (w wr : World) (v : Value) (L : List Str) : Prop where
  only : Only None' w wr
  row : Vec wr 1 v L.length (L.map encStr)
  new : ∀ g, v.ownBlock = some g → w.heap.size ≤ g
theorem DK.drewN {w wr : World} {v : Value} {L : List Str} (h : DK w wr v L) (q : Nat) : DK w (wr.drewN q) v L := ⟨h.only.drewN q, h.row.drewN q, h.new⟩
theorem DK.at_ {w wr : World} {v : Value} {L : List Str} (h : DK w wr v L) {j : Nat} {x : Str} (hj : L[j]? = some x) : ∃ g off c, v = .slice (some ⟨g, off, none⟩) L.length c ∧ wr.cell? ⟨g, off + j, none⟩ = some (encStr x) := by
  have hl := (List.getElem?_eq_some_iff.1 hj).1
  obtain ⟨g, off, c, e, _, _, _, h4, _⟩ := h.row.at_ (by omega)
  exact ⟨g, off, c, e, h4 j _ (by rw [List.getElem?_map, hj]; rfl)⟩
theorem DK.grown {w wr w1 w2 w3 : World} {v v1 v2 v3 : Value} {L L3 : List Str} (h : DK w wr v L) (g1 : wr.grownBy w1 none) (f1 : ∀ k, v1.ownBlock = some k → wr.heap.size ≤ k)
    {o : Obj} (g2 : (w1.alloc o).grownBy w2 v1.ownBlock) (f2 : ∀ k, v2.ownBlock = some k → v1.ownBlock = some k ∨ (w1.alloc o).heap.size ≤ k) (g3 : w2.grownBy w3 v2.ownBlock) (f3 : ∀ k, v3.ownBlock = some k → v2.ownBlock = some k ∨ w2.heap.size ≤ k)
    (hv : Vec w3 1 v3 L3.length (L3.map encStr)) : DK w w3 v3 L3 := by
  have s0 := h.only.size
  have s1 := g1.size
  have s2 := g2.size
  simp at s2 f2
  have b2 : ∀ k, v2.ownBlock = some k → wr.heap.size ≤ k := fun k hk => by
    rcases f2 k hk with e | e
    · exact f1 k e
    · omega
  refine ⟨?_, hv, fun k hk => ?_⟩
  · have o1 : Only (fun k => wr.heap.size ≤ k) wr w1 := (Only.refl _ _).grown g1 fun k e => by cases e
    have o2 := (o1.alloc o).grown g2 fun k e => f1 k e
    have o3 := o2.grown g3 fun k e => b2 k e
    exact h.only.trans2 o3 fun k hk e => by omega
  · rcases f3 k hk with e | e
    · exact Nat.le_trans s0 (b2 k e)
    · omega
end Go.Proofs.Ytajbagdgjbihjaa
