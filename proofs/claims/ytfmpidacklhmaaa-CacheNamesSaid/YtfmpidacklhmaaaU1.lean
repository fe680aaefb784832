/- A shelf in memory: links in a row, a map to them. Plain facts: no program. -/
import Derived.WalkKit
import Derived.Deep.Draws
import Derived.Below
import Derived.Lib.Hide
import Derived.Maps.OwnSet
namespace Go.Proofs.Ytfmpidacklhmaaa.Lru
open Go.RowKit Go.Maps
set_option linter.unusedVariables false
set_option maxRecDepth 20000

/-- what is kept -/
structure Ent where
  key : ByteArray
  val : ByteArray
  til : Int
  gra : Int

def Ent.bytes (e : Ent) : Nat := e.key.size + e.val.size

abbrev Node := Nat × Ent

def pt : Option Nat → Value
  | none => .pointer none
  | some b => .pointer (some ⟨b, 0, none⟩)

structure Link (w : World) (x : Nat) (e : Ent) (a z : Option Nat) : Prop where
  key : w.cell? ⟨x, 0, none⟩ = some (.string e.key)
  val : w.cell? ⟨x, 1, none⟩ = some (.string e.val)
  til : w.cell? ⟨x, 2, none⟩ = some (.int .i64 e.til)
  gra : w.cell? ⟨x, 3, none⟩ = some (.int .i64 e.gra)
  ahead : w.cell? ⟨x, 4, none⟩ = some (pt a)
  back : w.cell? ⟨x, 5, none⟩ = some (pt z)
  thaw : ∀ o, w.frozen? ⟨x, o, none⟩ = false

def hd : List Node → Option Nat → Option Nat
  | [], z => z
  | y :: _, _ => some y.1
def lst : List Node → Option Nat → Option Nat
  | [], a => a
  | y :: r, _ => lst r (some y.1)

def Seg (w : World) : Option Nat → List Node → Option Nat → Prop
  | _, [], _ => True
  | a, y :: r, z => Link w y.1 y.2 a (hd r z) ∧ Seg w (some y.1) r z

theorem hd_append : ∀ (p q : List Node) (z : Option Nat), hd (p ++ q) z = hd p (hd q z)
  | [], _, _ => rfl
  | _ :: _, _, _ => rfl
theorem lst_append : ∀ (p q : List Node) (a : Option Nat), lst (p ++ q) a = lst q (lst p a)
  | [], _, _ => rfl
  | y :: r, q, a => lst_append r q (some y.1)
theorem seg_append {w : World} : ∀ (p q : List Node) (a z : Option Nat), Seg w a (p ++ q) z ↔ Seg w a p (hd q z) ∧ Seg w (lst p a) q z
  | [], q, a, z => by simp [Seg, lst]
  | y :: r, q, a, z => by
    show Link w y.1 y.2 a (hd (r ++ q) z) ∧ Seg w (some y.1) (r ++ q) z ↔ _
    rw [hd_append, seg_append r q (some y.1) z]
    simp only [Seg, lst, and_assoc]

theorem Link.kept {w w' : World} {x : Nat} {e : Ent} {a z : Option Nat} (h : Link w x e a z) (hk : w'.heap[x]? = w.heap[x]?) : Link w' x e a z :=
  have c (o : Nat) : w'.cell? ⟨x, o, none⟩ = w.cell? ⟨x, o, none⟩ := World.cell?_of_block (w := w) (a := ⟨x, o, none⟩) hk
  ⟨(c 0).trans h.key, (c 1).trans h.val, (c 2).trans h.til, (c 3).trans h.gra, (c 4).trans h.ahead, (c 5).trans h.back, fun o => (World.frozen?_of_block (w := w) (a := ⟨x, o, none⟩) hk).trans (h.thaw o)⟩

theorem Seg.kept {w w' : World} : ∀ {l : List Node} {a z : Option Nat}, Seg w a l z → (∀ y ∈ l, w'.heap[y.1]? = w.heap[y.1]?) → Seg w' a l z
  | [], _, _, _, _ => trivial
  | y :: r, a, z, h, hk => ⟨h.1.kept (hk y (by simp)), Seg.kept h.2 fun x hx => hk x (by simp [hx])⟩

theorem off_ne {b : Nat} {i j : Nat} (h : i ≠ j) : (⟨b, i, none⟩ : Addr) ≠ ⟨b, j, none⟩ := fun e => h (by injection e)

theorem Link.setBack {w : World} {x : Nat} {e : Ent} {a z : Option Nat} (h : Link w x e a z) (z' : Option Nat) : Link (w.setCell ⟨x, 5, none⟩ (pt z')) x e a z' := by
  refine ⟨?_, ?_, ?_, ?_, ?_, World.cell?_setCell_same _ _ _ h.back, fun o => by rw [World.frozen?_setCell]; exact h.thaw o⟩ <;> rw [World.cell?_setCell_other _ _ _ _ (off_ne (by decide))]
  · exact h.key
  · exact h.val
  · exact h.til
  · exact h.gra
  · exact h.ahead

theorem Link.setAhead {w : World} {x : Nat} {e : Ent} {a z : Option Nat} (h : Link w x e a z) (a' : Option Nat) : Link (w.setCell ⟨x, 4, none⟩ (pt a')) x e a' z := by
  refine ⟨?_, ?_, ?_, ?_, World.cell?_setCell_same _ _ _ h.ahead, ?_, fun o => by rw [World.frozen?_setCell]; exact h.thaw o⟩ <;> rw [World.cell?_setCell_other _ _ _ _ (off_ne (by decide))]
  · exact h.key
  · exact h.val
  · exact h.til
  · exact h.gra
  · exact h.back

def nums (l : List Node) : List Nat := l.map (·.1)

theorem Seg.far {w : World} {l : List Node} {a z : Option Nat} (h : Seg w a l z) {p : Addr} (hp : p.block ∉ nums l) (v : Value) : Seg (w.setCell p v) a l z :=
  h.kept fun y hy => Below.heap_setCell _ _ _ _ (fun e => hp (List.mem_map.2 ⟨y, hy, e⟩))

theorem Seg.endBack {w : World} {p : List Node} {y : Node} {a z : Option Nat} (h : Seg w a (p ++ [y]) z) (hn : y.1 ∉ nums p) (z' : Option Nat) : Seg (w.setCell ⟨y.1, 5, none⟩ (pt z')) a (p ++ [y]) z' := by
  rw [seg_append] at h ⊢
  exact ⟨Seg.far h.1 hn _, h.2.1.setBack z', trivial⟩

theorem Seg.headAhead {w : World} {q : List Node} {y : Node} {a z : Option Nat} (h : Seg w a (y :: q) z) (hn : y.1 ∉ nums q) (a' : Option Nat) : Seg (w.setCell ⟨y.1, 4, none⟩ (pt a')) a' (y :: q) z :=
  ⟨h.1.setAhead a', Seg.far h.2 hn _⟩

/-- only blocks of S have turned, of those that were there -/
structure Only (S : Nat → Prop) (w w' : World) : Prop where
  os : w'.os = w.os
  tape : w'.tape = w.tape
  output : w'.output = w.output
  size : w.heap.size ≤ w'.heap.size
  block : ∀ k, k < w.heap.size → ¬ S k → w'.heap[k]? = w.heap[k]?

theorem Only.refl (S : Nat → Prop) (w : World) : Only S w w := ⟨rfl, rfl, rfl, Nat.le_refl _, fun _ _ _ => rfl⟩
theorem Only.mono {S S' : Nat → Prop} {w w' : World} (h : Only S w w') (hs : ∀ k, k < w.heap.size → S k → S' k) : Only S' w w' :=
  ⟨h.os, h.tape, h.output, h.size, fun k hk hn => h.block k hk fun hS => hn (hs k hk hS)⟩
theorem Only.trans {S : Nat → Prop} {a b c : World} (h : Only S a b) (k : Only S b c) : Only S a c :=
  ⟨k.os.trans h.os, k.tape.trans h.tape, k.output.trans h.output, Nat.le_trans h.size k.size, fun i hi hn => (k.block i (Nat.lt_of_lt_of_le hi h.size) hn).trans (h.block i hi hn)⟩
theorem Only.drew {S : Nat → Prop} {a w : World} (h : Only S a w) : Only S a w.drew := ⟨h.os, h.tape, h.output, h.size, h.block⟩
theorem Only.drewN {S : Nat → Prop} {a w : World} (h : Only S a w) (n : Nat) : Only S a (w.drewN n) := ⟨h.os, h.tape, h.output, h.size, h.block⟩
theorem Only.setCell {S : Nat → Prop} {a w : World} (h : Only S a w) {p : Addr} (hp : S p.block) (v : Value) : Only S a (w.setCell p v) :=
  h.trans ⟨rfl, rfl, rfl, by simp [World.setCell], fun k _ hn => Below.heap_setCell _ _ _ _ (fun e => hn (e ▸ hp))⟩
theorem Only.alloc {S : Nat → Prop} {a w : World} (h : Only S a w) (o : Obj) : Only S a (w.alloc o) :=
  h.trans ⟨rfl, rfl, rfl, by simp, fun k hk _ => Below.heap_alloc _ _ _ hk⟩
theorem Only.turned {S : Nat → Prop} {a w w' : World} {b : Nat} (h : Only S a w) (ht : w.mapTurned w' b) (hb : S b) : Only S a w' :=
  h.trans (by
    have hg := ht.grown
    exact ⟨hg.os, hg.tape, hg.output, hg.size, fun k hk hn => hg.block k hk (fun e => hn (by injection e with e; exact e ▸ hb))⟩)
theorem Only.below {S : Nat → Prop} {w w' : World} (h : Only S w w') {m : Nat} (hm : m ≤ w.heap.size) (hs : ∀ k, S k → m ≤ k) : Below m w w' :=
  ⟨h.os, h.tape, h.output, h.size, fun k hk => h.block k (Nat.lt_of_lt_of_le hk hm) fun hS => absurd (hs k hS) (by omega)⟩

/-- the links of a shelf in their row, and the shelf's two ends -/
structure Row (m : Nat) (w : World) (B M : Nat) (l : List Node) : Prop where
  front : w.cell? ⟨B, 2, none⟩ = some (pt (hd l none))
  last : w.cell? ⟨B, 3, none⟩ = some (pt (lst l none))
  seg : Seg w none l none
  nodup : (nums l).Nodup
  mine : ∀ k ∈ nums l, m ≤ k ∧ k < w.heap.size ∧ k ≠ B ∧ k ≠ M
  mB : m ≤ B
  mM : m ≤ M
  BM : B ≠ M
  ltB : B < w.heap.size
  thaw : ∀ o, w.frozen? ⟨B, o, none⟩ = false

/-- the shelf's other cells -/
structure Rest (w : World) (B M : Nat) (E Y u : Int) : Prop where
  ent : w.cell? ⟨B, 0, none⟩ = some (.int .i64 E)
  byt : w.cell? ⟨B, 1, none⟩ = some (.int .i64 Y)
  at_ : w.cell? ⟨B, 4, none⟩ = some (.map (some M))
  used : w.cell? ⟨B, 5, none⟩ = some (.int .i64 u)

/-- what a turn of the row leaves as it was -/
structure Rowed (w w' : World) (B : Nat) (S : List Nat) : Prop where
  only : Only (fun k => k = B ∨ k ∈ S) w w'
  rest : ∀ o, o ≠ 2 → o ≠ 3 → w'.cell? ⟨B, o, none⟩ = w.cell? ⟨B, o, none⟩
  same : w'.heap.size = w.heap.size

theorem Rowed.refl (w : World) (B : Nat) (S : List Nat) : Rowed w w B S := ⟨Only.refl _ _, fun _ _ _ => rfl, rfl⟩
theorem Rowed.trans {a b c : World} {B : Nat} {S : List Nat} (h : Rowed a b B S) (k : Rowed b c B S) : Rowed a c B S :=
  ⟨h.only.trans k.only, fun o h2 h3 => (k.rest o h2 h3).trans (h.rest o h2 h3), k.same.trans h.same⟩
theorem Rowed.link {a w : World} {B : Nat} {S : List Nat} (h : Rowed a w B S) {x o : Nat} (hx : x ∈ S) (hB : x ≠ B) (v : Value) : Rowed a (w.setCell ⟨x, o, none⟩ v) B S :=
  ⟨h.only.setCell (Or.inr hx) v, fun o' h2 h3 => by rw [World.cell?_setCell_other _ _ _ _ (fun e => hB (by injection e))]; exact h.rest o' h2 h3, by rw [← h.same]; simp [World.setCell]⟩
theorem Rowed.own {a w : World} {B : Nat} {S : List Nat} (h : Rowed a w B S) {o : Nat} (ho : o = 2 ∨ o = 3) (v : Value) : Rowed a (w.setCell ⟨B, o, none⟩ v) B S :=
  ⟨h.only.setCell (Or.inl rfl) v, fun o' h2 h3 => by rw [World.cell?_setCell_other _ _ _ _ (off_ne (by omega))]; exact h.rest o' h2 h3, by rw [← h.same]; simp [World.setCell]⟩
theorem Rowed.drewN {a w : World} {B : Nat} {S : List Nat} (h : Rowed a w B S) (n : Nat) : Rowed a (w.drewN n) B S :=
  ⟨h.only.drewN n, h.rest, h.same⟩

theorem Rest.rowed {w w' : World} {B M : Nat} {E Y u : Int} {S : List Nat} (h : Rest w B M E Y u) (r : Rowed w w' B S) : Rest w' B M E Y u :=
  ⟨(r.rest 0 (by decide) (by decide)).trans h.ent, (r.rest 1 (by decide) (by decide)).trans h.byt, (r.rest 4 (by decide) (by decide)).trans h.at_, (r.rest 5 (by decide) (by decide)).trans h.used⟩

end Go.Proofs.Ytfmpidacklhmaaa.Lru
