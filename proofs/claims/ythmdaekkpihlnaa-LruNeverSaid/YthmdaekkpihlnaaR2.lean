/- LruStays: the state between the steps. -/
import Derived.Test.YthmdaekkpihlnaaR1
import Derived.Test.YthmdaekkpihlnaaQ9
namespace Go.Proofs.Ythmdaekkpihlnaa
open Go.RowKit
set_option linter.unusedVariables false

theorem Sh.lower {m m' : Nat} {w : World} {B M : Nat} {E Y : Int} {l : List Node} {L : List Ent} (h : Sh m w B M E Y l L) (hm : m' ≤ m) : Sh m' w B M E Y l L :=
  ⟨⟨⟨h.shelf.row.front, h.shelf.row.last, h.shelf.row.seg, h.shelf.row.nodup, (fun k hk => by obtain ⟨a, b⟩ := h.shelf.row.mine k hk; exact ⟨Nat.le_trans hm a, b⟩), Nat.le_trans hm h.shelf.row.mB, Nat.le_trans hm h.shelf.row.mM, h.shelf.row.BM, h.shelf.row.ltB, h.shelf.row.thaw⟩, h.shelf.rest, h.shelf.map, h.shelf.small, h.shelf.few⟩, h.is, Nat.le_trans hm h.le⟩

/-- the shelf has L; the order is of A, of which L is the end -/
structure Stay (w0 w : World) (B M : Nat) (E Y : Int) (l : List Node) (L A : List Ent) (vo : Value) : Prop where
  sh : Sh w0.heap.size w B M E Y l L
  vec : Vec w 1 vo A.length (strs (keysOf A))
  dis : ∀ b, vo.ownBlock = some b → ¬ Own B M l b
  bel : Below w0.heap.size w0 w
  suf : ∃ p, A = p ++ L
  til : ∀ e ∈ L, e.til = 1

section
variable {w0 w w' : World} {B M : Nat} {E Y : Int} {l l' : List Node} {L L' A A' : List Ent} {vo vo' : Value}

theorem Stay.new (h : Stay w0 w B M E Y l L A vo) (n : Only None' w w') : Stay w0 w' B M E Y l L A vo :=
  ⟨h.sh.new n, h.vec.only n fun _ _ h => h, h.dis, h.bel.trans (n.below h.bel.size fun _ h => h.elim), h.suf, h.til⟩

/-- the shelf turns; the order is made anew of what lies apart from it -/
theorem Stay.turn (h : Stay w0 w B M E Y l L A vo) (S' : Sh w0.heap.size w' B M E Y l' L') (K : Kept (Own B M l) (Own B M l') w w') :
    Vec w' 1 vo A.length (strs (keysOf A)) ∧ (∀ b, vo.ownBlock = some b → ¬ Own B M l' b) ∧ Below w0.heap.size w0 w' :=
  ⟨h.vec.only K.only h.dis, fun b hb hb' => by
    rcases K.fresh b hb' with h1 | h1
    · exact h.dis b hb h1
    · have := h.vec.lt hb; omega, h.bel.trans (K.only.below h.bel.size fun k hk => h.sh.shelf.ge hk)⟩

/-- a new row of keys -/
theorem Sh.order {S : Sh w0.heap.size w B M E Y l L} (hb : Below w0.heap.size w0 w) (hB : Below w.heap.size w w') {n : Nat} (hV : Vec w' 1 vo n (strs (keysOf A))) (hn : n = A.length) (hf : ∀ b, vo.ownBlock = some b → w.heap.size ≤ b) (hs : ∃ p, A = p ++ L) (ht : ∀ e ∈ L, e.til = 1) :
    Stay w0 w' B M E Y l L A vo := by
  subst hn
  have hO : Only None' w w' := ⟨hB.os, hB.tape, hB.output, hB.size, fun k hk _ => hB.block k hk⟩
  exact ⟨S.new hO, hV, fun b hb' ho => by have := hf b hb'; have := S.shelf.ltOwn ho; omega, hb.trans (hB.mono hb.size), hs, ht⟩

end

theorem live_all {L : List Ent} (h : ∀ e ∈ L, e.til = 1) (k : ByteArray) : pget L k 0 = pfind L k := by
  unfold pget
  cases hf : pfind L k with
  | none => rfl
  | some e =>
    have := h e (List.mem_of_find?_eq_some hf)
    show (if decide ((0 : Int) < e.til) = true then some e else none) = some e
    rw [if_pos (by simp; omega)]

end Go.Proofs.Ythmdaekkpihlnaa
