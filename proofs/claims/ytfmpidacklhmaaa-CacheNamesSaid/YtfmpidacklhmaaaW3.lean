/- Contracts of All and Sweep. -/
import Derived.Test.YtfmpidacklhmaaaW2
namespace Go.Proofs.Ytfmpidacklhmaaa.Lru
open Go.RowKit Go.Maps
set_option linter.unusedVariables false
set_option maxRecDepth 20000

def ents (l : List Node) : List Value := l.flatMap fun y => y.2.cells

theorem take_snoc {l : List Node} {i : Nat} {y : Node} {r : List Node} (h : l.drop i = y :: r) : l.take (i + 1) = l.take i ++ [y] := by
  have hlt : i < l.length := by have := congrArg List.length h; simp at this; omega
  rw [List.take_succ_eq_append_getElem hlt]
  have : l[i] = y := by
    have := List.drop_eq_getElem_cons hlt
    rw [h] at this
    injection this with this
    exact this.symm
  rw [this]

theorem mem_of_drop {l : List Node} {i : Nat} {y : Node} {r : List Node} (h : l.drop i = y :: r) : y ∈ l := List.mem_of_mem_drop (by rw [h]; simp)

/-- the link at i, and what it says of the next -/
theorem Shelf.link {m : Nat} {w : World} {B M : Nat} {E Y : Int} {l : List Node} (S : Shelf m w B M E Y l) {i : Nat} {y : Node} {r : List Node} (h : l.drop i = y :: r) :
    Link w y.1 y.2 (lst (l.take i) none) (hd r none) := by
  have hs := S.row.seg
  rw [← List.take_append_drop i l, h, seg_append] at hs
  exact hs.2.1

structure Gathered (w0 : World) (C base : Nat) (l : List Node) (i : Nat) (wr : World) : Prop where
  v : ∃ v, wr.cell? ⟨C, 0, none⟩ = some v ∧ wr.ownsRow base 66 4 v i (ents (l.take i))
  thaw : wr.frozen? ⟨C, 0, none⟩ = false
  only : Only (fun k => k = C ∨ base ≤ k) w0 wr
  size : base ≤ wr.heap.size

set_option maxRecDepth 100000 in
theorem all_any {m : Nat} {w : World} {B M : Nat} {E Y : Int} {l : List Node} (S : Shelf m w B M E Y l) :
    Calls Try.prog 22 #[.pointer (some ⟨B, 0, none⟩)] w fun e w' => ∃ v, e = .returned v ∧ w'.ownsRow (w.heap.size + 1) 66 4 v l.length (ents l) ∧ Only None' w w' := by
  have SA := Lib.hid (S.alloc (.cells #[.slice none 0 0] 47))
  have hB : B < w.heap.size := S.row.ltB
  have hmine := S.row.mine
  have hfew := S.few
  clear S
  have hE := each_gen B 34 (.inl rfl) #[.pointer (some ⟨w.heap.size, 0, none⟩)] l (Gathered (w.alloc (.cells #[.slice none 0 0] 47)) w.heap.size (w.heap.size + 1) l)
    (fun w1 h => by rw [h.only.cell (by simp; omega) (by omega) 2]; exact SA.out.row.front)
    (fun i w1 y r h hd' => by
      have hy := hmine y.1 (List.mem_map.2 ⟨y, mem_of_drop hd', rfl⟩)
      rw [h.only.cell (by simp; omega) (by omega) 5]; exact (SA.out.link hd').back)
    (fun i w1 y r h hd' => by
      have hy := hmine y.1 (List.mem_map.2 ⟨y, mem_of_drop hd', rfl⟩)
      have L := SA.out.link hd'
      obtain ⟨v, hv, hown⟩ := h.v
      have c (o : Nat) := h.only.cell (b := y.1) (by simp; omega) (by omega) o
      have hlt : i < l.length := by have := congrArg List.length hd'; simp at this; omega
      refine (all_one w1 y.1 w.heap.size (w.heap.size + 1) y.2 v i (ents (l.take i)) ((c 0).trans L.key) ((c 1).trans L.val) ((c 2).trans L.til) ((c 3).trans L.gra) hv h.thaw hown (by omega) (by omega) h.size (by omega)).mono ?_
      rintro e w2 ⟨rfl, v', h1, h2, h3, h4⟩
      refine ⟨rfl, ⟨v', h1, ?_⟩, h2, h.only.trans (h4.mono fun k hk hS => hS), Nat.le_trans h.size h4.size⟩
      rw [take_snoc hd']
      unfold ents
      rw [List.flatMap_append, List.flatMap_singleton]
      exact h3)
    (w.alloc (.cells #[.slice none 0 0] 47)) ⟨⟨_, World.cell?_alloc_new _ _ _ _, World.ownsRow_nil _ _ _ _⟩, World.frozen?_alloc_new _ _ _ _, Only.refl _ _, by simp⟩
  have HEE := Lib.hid hE
  clear hE hmine hB hfew
  go_enter Try.func22, Try.ntmps22
  go_wp2_with fail
  refine HEE.out.mono ?_
  rintro e w1 ⟨rfl, h⟩
  obtain ⟨v, hv, hown⟩ := h.v
  have HO := Lib.hid hown
  have HG := Lib.hid h
  clear h hown
  go_wp2
  go_ret
  refine ⟨v, rfl, by have := HO.out; rwa [List.take_length] at this, ?_⟩
  exact ((Only.refl None' w).alloc _).trans2 HG.out.only fun k hk hS => by omega

end Go.Proofs.Ytfmpidacklhmaaa.Lru
