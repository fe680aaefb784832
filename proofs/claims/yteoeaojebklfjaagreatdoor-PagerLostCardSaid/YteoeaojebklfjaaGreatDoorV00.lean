/- G1 K1 D0 in one text. -/
import Derived.WalkKit
import Derived.Deep.Draws
import Derived.Below
import Derived.Lib.Hide
import Derived.Maps.OwnSet
import Derived.Maps.AppendAt
import Derived.Deep.AppendLies
import Derived.Deep.MidRow
import Derived.ArgAppend
import Derived.Laws.IdiomCopy
import Derived.ProofKit
import Derived.OpenShut
import Derived.ChangeOld
import Derived.SizedLaws
import Derived.Deep.Slices
import Derived.Deep.Strs
import Derived.Deep.Fields
namespace Go.Proofs.YteoeaojebklfjaaGreatDoor
open Go.RowKit
theorem zA {α : Type} (l : List α) (i : Nat) (a : α) : l.toArray.setIfInBounds i a = (l.set i a).toArray := by simp
theorem zB {α : Type} (x a : α) (l : List α) : (x :: l).set 0 a = a :: l := rfl
theorem zC {α : Type} (x a : α) (l : List α) (n : Nat) : (x :: l).set (n + 1) a = x :: l.set n a := rfl
set_option linter.unusedVariables false

theorem off_ne {b : Nat} {i j : Nat} (h : i ≠ j) : (⟨b, i, none⟩ : Addr) ≠ ⟨b, j, none⟩ := fun e => h (by injection e)
theorem heap_size_setCell (w : World) (p : Addr) (v : Value) : (w.setCell p v).heap.size = w.heap.size := by simp [World.setCell]

structure Only (S : Nat → Prop) (w w' : World) : Prop where
  os : w'.os = w.os
  tape : w'.tape = w.tape
  output : w'.output = w.output
  size : w.heap.size ≤ w'.heap.size
  block : ∀ k, k < w.heap.size → ¬ S k → w'.heap[k]? = w.heap[k]?

theorem Only.refl (S : Nat → Prop) (w : World) : Only S w w := ⟨rfl, rfl, rfl, Nat.le_refl _, fun _ _ _ => rfl⟩
theorem Only.mono {S S' : Nat → Prop} {w w' : World} (h : Only S w w') (hs : ∀ k, k < w.heap.size → S k → S' k) : Only S' w w' :=
  ⟨h.os, h.tape, h.output, h.size, fun k hk hn => h.block k hk fun hS => hn (hs k hk hS)⟩
theorem Only.trans {S : Nat → Prop} {a b c : World} (h : Only S a b) (k : Only S b c) : Only S a c :=
  ⟨k.os.trans h.os, k.tape.trans h.tape, k.output.trans h.output, Nat.le_trans h.size k.size, fun i hi hn => (k.block i (Nat.lt_of_lt_of_le hi h.size) hn).trans (h.block i hi hn)⟩
theorem Only.trans2 {S S' : Nat → Prop} {a b c : World} (h : Only S a b) (k : Only S' b c) (hs : ∀ k, k < a.heap.size → S' k → S k) : Only S a c :=
  ⟨k.os.trans h.os, k.tape.trans h.tape, k.output.trans h.output, Nat.le_trans h.size k.size, fun i hi hn => (k.block i (Nat.lt_of_lt_of_le hi h.size) fun h' => hn (hs i hi h')).trans (h.block i hi hn)⟩
theorem Only.drew {S : Nat → Prop} {a w : World} (h : Only S a w) : Only S a w.drew := ⟨h.os, h.tape, h.output, h.size, h.block⟩
theorem Only.drewN {S : Nat → Prop} {a w : World} (h : Only S a w) (n : Nat) : Only S a (w.drewN n) := ⟨h.os, h.tape, h.output, h.size, h.block⟩
theorem Only.setCell {S : Nat → Prop} {a w : World} (h : Only S a w) {p : Addr} (hp : S p.block) (v : Value) : Only S a (w.setCell p v) :=
  h.trans ⟨rfl, rfl, rfl, by simp [World.setCell], fun k _ hn => Below.heap_setCell _ _ _ _ (fun e => hn (e ▸ hp))⟩
theorem Only.alloc {S : Nat → Prop} {a w : World} (h : Only S a w) (o : Obj) : Only S a (w.alloc o) :=
  h.trans ⟨rfl, rfl, rfl, by simp, fun k hk _ => Below.heap_alloc _ _ _ hk⟩
theorem Only.turned {S : Nat → Prop} {a w w' : World} {b : Nat} (h : Only S a w) (ht : w.mapTurned w' b) (hb : S b) : Only S a w' :=
  h.trans (by
    have hg := ht.grown
    exact ⟨hg.os, hg.tape, hg.output, hg.size, fun k hk hn => hg.block k hk (fun e => hn (by injection e with e; exact e ▸ hb))⟩)
theorem Only.grown {S : Nat → Prop} {a w w' : World} {row : Option Nat} (h : Only S a w) (hg : w.grownBy w' row) (hr : ∀ k, row = some k → S k) : Only S a w' :=
  h.trans ⟨hg.os, hg.tape, hg.output, hg.size, fun k hk hn => hg.block k hk fun e => hn (hr k e.symm)⟩
theorem Only.below {S : Nat → Prop} {w w' : World} (h : Only S w w') {m : Nat} (hm : m ≤ w.heap.size) (hs : ∀ k, S k → m ≤ k) : Below m w w' :=
  ⟨h.os, h.tape, h.output, h.size, fun k hk => h.block k (Nat.lt_of_lt_of_le hk hm) fun hS => absurd (hs k hS) (by omega)⟩
theorem Only.of_below {w w' : World} (h : Below w.heap.size w w') (S : Nat → Prop) : Only S w w' := ⟨h.os, h.tape, h.output, h.size, fun k hk _ => h.block k hk⟩
theorem Only.cell {S : Nat → Prop} {w w' : World} (h : Only S w w') {b : Nat} (hb : b < w.heap.size) (hn : ¬ S b) (i : Nat) : w'.cell? ⟨b, i, none⟩ = w.cell? ⟨b, i, none⟩ :=
  World.cell?_of_block (w := w) (a := ⟨b, i, none⟩) (h.block b hb hn)
theorem Only.frozen {S : Nat → Prop} {w w' : World} (h : Only S w w') {b : Nat} (hb : b < w.heap.size) (hn : ¬ S b) (i : Nat) : w'.frozen? ⟨b, i, none⟩ = w.frozen? ⟨b, i, none⟩ :=
  World.frozen?_of_block (w := w) (a := ⟨b, i, none⟩) (h.block b hb hn)

def None' (k : Nat) : Prop := False

theorem size_setCells (b : Nat) : ∀ (vs : List Value) (o : Nat) (w : World), (w.setCells b o vs).heap.size = w.heap.size
  | [], _, _ => rfl
  | v :: vs, o, w => by
    show ((w.setCell ⟨b, o, none⟩ v).setCells b (o + 1) vs).heap.size = _
    rw [size_setCells b vs (o + 1)]; simp [World.setCell]
theorem grown_setCells (b : Nat) : ∀ (vs : List Value) (o : Nat) (w : World), w.grownBy (w.setCells b o vs) (some b)
  | [], _, w => ⟨rfl, rfl, rfl, Nat.le_refl _, fun _ _ _ => rfl⟩
  | v :: vs, o, w => by
    have h1 : w.grownBy (w.setCell ⟨b, o, none⟩ v) (some b) := ⟨rfl, rfl, rfl, by simp [World.setCell], fun k _ hk => Below.heap_setCell _ _ _ _ fun e => hk (by rw [e])⟩
    exact h1.trans (grown_setCells b vs (o + 1) _)
theorem Only.setCells {S : Nat → Prop} {a w : World} (h : Only S a w) {b : Nat} (hb : S b) (o : Nat) (vs : List Value) : Only S a (w.setCells b o vs) :=
  h.grown (grown_setCells b vs o w) fun k hk => by injection hk with hk; exact hk ▸ hb

structure Kept (F F' : Nat → Prop) (w w' : World) : Prop where
  only : Only F w w'
  fresh : ∀ k, F' k → F k ∨ w.heap.size ≤ k

theorem Kept.refl (F : Nat → Prop) (w : World) : Kept F F w w := ⟨Only.refl _ _, fun _ h => .inl h⟩
theorem Kept.trans {F F' F'' : Nat → Prop} {a b c : World} (h : Kept F F' a b) (k : Kept F' F'' b c) : Kept F F'' a c :=
  ⟨h.only.trans2 k.only fun i hi hF => (h.fresh i hF).resolve_right (by omega), fun i hi => by
    rcases k.fresh i hi with h1 | h1
    · exact h.fresh i h1
    · exact .inr (Nat.le_trans h.only.size h1)⟩
theorem Kept.only' {F : Nat → Prop} {w w' : World} (h : Only F w w') : Kept F F w w' := ⟨h, fun _ h => .inl h⟩
theorem Kept.new {F : Nat → Prop} {w w' : World} (h : Only None' w w') : Kept F F w w' := ⟨h.mono fun _ _ h => h.elim, fun _ h => .inl h⟩
theorem Kept.stay {F F' : Nat → Prop} {w w' : World} (h : Kept F F' w w') {b : Nat} (hb : b < w.heap.size) (hn : ¬ F b) : b < w'.heap.size ∧ ¬ F' b ∧ w'.heap[b]? = w.heap[b]? :=
  ⟨Nat.lt_of_lt_of_le hb h.only.size, fun hF => by rcases h.fresh b hF with h1 | h1; exact hn h1; omega, h.only.block b hb hn⟩
theorem Kept.wide {F F' : Nat → Prop} {w w' : World} (h : Kept F F' w w') (hF : ∀ k, F' k → k < w.heap.size ∨ w.heap.size ≤ k) : ∀ k, F' k → F k ∨ w.heap.size ≤ k := h.fresh

structure Vec (w : World) (size : Nat) (v : Value) (n : Nat) (xs : List Value) : Prop where
  len : xs.length = n * size
  form : (v = .slice none 0 0 ∧ n = 0) ∨ ∃ g off cap, v = .slice (some ⟨g, off, none⟩) n cap ∧ n ≤ cap ∧ cap ≤ maxLen ∧ g < w.heap.size ∧
    (∀ j u, xs[j]? = some u → w.cell? ⟨g, off + j, none⟩ = some u) ∧ (∀ j, j < cap * size → (w.cell? ⟨g, off + j, none⟩).isSome = true ∧ w.frozen? ⟨g, off + j, none⟩ = false)

section
variable {w w' : World} {size n : Nat} {v : Value} {xs : List Value}
theorem Vec.nil (w : World) (size : Nat) : Vec w size (.slice none 0 0) 0 [] := ⟨by simp, .inl ⟨rfl, rfl⟩⟩
theorem Vec.kept (h : Vec w size v n xs) (hs : w.heap.size ≤ w'.heap.size) (hb : ∀ g, v.ownBlock = some g → w'.heap[g]? = w.heap[g]?) : Vec w' size v n xs := by
  refine ⟨h.len, ?_⟩
  rcases h.form with h1 | ⟨g, off, cap, rfl, h1, h2, h3, h4, h5⟩
  · exact .inl h1
  · have hg := hb g rfl
    refine .inr ⟨g, off, cap, rfl, h1, h2, by omega, fun j u hu => ?_, fun j hj => ?_⟩
    · rw [World.cell?_of_block (w := w) (a := ⟨g, off + j, none⟩) hg]; exact h4 j u hu
    · rw [World.cell?_of_block (w := w) (a := ⟨g, off + j, none⟩) hg, World.frozen?_of_block (w := w) (a := ⟨g, off + j, none⟩) hg]; exact h5 j hj
theorem Vec.lt (h : Vec w size v n xs) {k : Nat} (hk : v.ownBlock = some k) : k < w.heap.size := by
  rcases h.form with ⟨rfl, _⟩ | ⟨g, off, cap, rfl, h1, h2, h3, h4, h5⟩
  · cases hk
  · injection hk with hk; exact hk ▸ h3
theorem Vec.only (h : Vec w size v n xs) {F : Nat → Prop} (ho : Only F w w') (hb : ∀ g, v.ownBlock = some g → ¬ F g) : Vec w' size v n xs :=
  h.kept ho.size fun g hg => ho.block g (h.lt hg) (hb g hg)
theorem Vec.drewN (h : Vec w size v n xs) (k : Nat) : Vec (w.drewN k) size v n xs := h.kept (Nat.le_refl _) fun _ _ => rfl
theorem Vec.drew (h : Vec w size v n xs) : Vec w.drew size v n xs := h.kept (Nat.le_refl _) fun _ _ => rfl
theorem Vec.alloc (h : Vec w size v n xs) (o : Obj) : Vec (w.alloc o) size v n xs :=
  h.kept (by simp) fun g hg => Below.heap_alloc _ _ _ (h.lt hg)
theorem add_mid' (a : Addr) (j : Nat) (hs : a.spot = none) : a.add j = ⟨a.block, a.off + j, none⟩ := by
  obtain ⟨b, o, s⟩ := a
  simp only at hs; subst hs
  cases j <;> simp [Addr.add]
theorem Vec.of_owns {base : Nat} {e : TypeId} (h : w.ownsRow base e size v n xs) : Vec w size v n xs := by
  refine ⟨h.1, ?_⟩
  rcases h.2 with h1 | ⟨g, cap, cur, rfl, hb, hh, h1, h2, h3, h4⟩
  · exact .inl h1
  · refine .inr ⟨g, 0, cap, rfl, h1, h2, (h.lt g rfl).2, fun j u hu => ?_, fun j hj => ?_⟩
    · have := h.cells (g := g) rfl j u hu
      rwa [add_mid' (⟨g, 0, none⟩) j rfl] at this
    · rw [Nat.zero_add, cell_of_row w g j cur e (0, 0) hh]
      have hj' : j < cur.size := by rw [h3]; exact hj
      refine ⟨by simp [hj'], ?_⟩
      simp [World.frozen?, hh]
theorem Vec.at_ (h : Vec w size v n xs) (hn : 0 < n) : ∃ g off cap, v = .slice (some ⟨g, off, none⟩) n cap ∧ n ≤ cap ∧ cap ≤ maxLen ∧ g < w.heap.size ∧
    (∀ j u, xs[j]? = some u → w.cell? ⟨g, off + j, none⟩ = some u) ∧ (∀ j, j < cap * size → (w.cell? ⟨g, off + j, none⟩).isSome = true ∧ w.frozen? ⟨g, off + j, none⟩ = false) := by
  rcases h.form with ⟨_, rfl⟩ | h1
  · omega
  · exact h1
theorem Vec.shape (h : Vec w size v n xs) : ∃ a cap, v = .slice a n cap ∧ n ≤ cap ∧ cap ≤ maxLen := by
  rcases h.form with ⟨rfl, rfl⟩ | ⟨g, off, cap, rfl, h1, h2, _⟩
  · exact ⟨none, 0, rfl, Nat.le_refl _, Nat.zero_le _⟩
  · exact ⟨_, _, rfl, h1, h2⟩
theorem Vec.form' {a : Option Addr} {cap : Nat} (h : Vec w size (.slice a n cap) n xs) (hn : 0 < n) : ∃ g off, a = some ⟨g, off, none⟩ ∧ g < w.heap.size ∧
    (∀ j u, xs[j]? = some u → w.cell? ⟨g, off + j, none⟩ = some u) ∧ (∀ j, j < cap * size → (w.cell? ⟨g, off + j, none⟩).isSome = true ∧ w.frozen? ⟨g, off + j, none⟩ = false) := by
  obtain ⟨g, off, cap', he, _, _, h3, h4, h5⟩ := h.at_ hn
  injection he with he _ hc
  subst he hc
  exact ⟨g, off, rfl, h3, h4, h5⟩
theorem Vec.range {g off cap : Nat} (h : Vec w size (.slice (some ⟨g, off, none⟩) n cap) n xs) : w.rangeAt g off xs := by
  rcases h.form with ⟨h1, _⟩ | ⟨g', off', cap', he, _, _, _, h4, _⟩
  · cases h1
  · simp only [Value.slice.injEq, Option.some.injEq, Addr.mk.injEq, and_true, true_and] at he
    obtain ⟨⟨rfl, rfl⟩, rfl⟩ := he
    exact h4

theorem Vec.cut {g off cap k : Nat} (h : Vec w size (.slice (some ⟨g, off, none⟩) n cap) n xs) (hk : k ≤ n) :
    Vec w size (.slice (if cap = k then some ⟨g, off, none⟩ else some ⟨g, off + k * size, none⟩) (n - k) (cap - k)) (n - k) (xs.drop (k * size)) := by
  refine ⟨by rw [List.length_drop, h.len, Nat.sub_mul], ?_⟩
  rcases h.form with ⟨h1, _⟩ | ⟨g', off', cap', he, h1, h2, h3, h4, h5⟩
  · cases h1
  · simp only [Value.slice.injEq, Option.some.injEq, Addr.mk.injEq, and_true, true_and] at he
    obtain ⟨⟨rfl, rfl⟩, rfl⟩ := he
    refine .inr ?_
    by_cases hc : cap = k
    · rw [if_pos hc]
      have hn : n = k := by omega
      subst hc
      subst hn
      refine ⟨g, off, _, rfl, Nat.le_refl _, by omega, h3, fun j u hu => ?_, fun j hj => by simp at hj⟩
      rw [List.drop_eq_nil_of_le (by rw [h.len]; exact Nat.le_refl _)] at hu
      simp at hu
    · rw [if_neg hc]
      refine ⟨g, off + k * size, cap - k, rfl, by omega, by omega, h3, fun j u hu => ?_, fun j hj => ?_⟩
      · rw [List.getElem?_drop] at hu
        rw [Nat.add_assoc]; exact h4 _ u hu
      · rw [Nat.add_assoc]
        refine h5 _ ?_
        rw [Nat.sub_mul] at hj
        have : k * size ≤ cap * size := Nat.mul_le_mul_right _ (by omega)
        omega
end

theorem Vec.put {w : World} {size n g off cap : Nat} {xs : List Value} (h : Vec w size (.slice (some ⟨g, off, none⟩) n cap) n xs) {o : Nat} {vs : List Value} (ho : o + vs.length ≤ n * size) :
    Vec (w.setCells g (off + o) vs) size (.slice (some ⟨g, off, none⟩) n cap) n (xs.take o ++ vs ++ xs.drop (o + vs.length)) := by
  rcases h.form with ⟨h1, _⟩ | ⟨g', off', cap', he, h1, h2, h3, h4, h5⟩
  · cases h1
  · simp only [Value.slice.injEq, Option.some.injEq, Addr.mk.injEq, and_true, true_and] at he
    obtain ⟨⟨rfl, rfl⟩, rfl⟩ := he
    have hcap : n * size ≤ cap * size := Nat.mul_le_mul_right _ h1
    have hsome : ∀ j, j < vs.length → (w.cell? ⟨g, off + o + j, none⟩).isSome = true := fun j hj => by
      rw [Nat.add_assoc]; exact (h5 (o + j) (by omega)).1
    have hlen := h.len
    refine ⟨by simp; omega, .inr ⟨g, off, cap, rfl, h1, h2, by rw [size_setCells]; exact h3, fun i u hu => ?_, fun i hi => ?_⟩⟩
    · by_cases h6 : i < o
      · rw [List.append_assoc, List.getElem?_append_left (by simp; omega), List.getElem?_take_of_lt h6] at hu
        rw [World.cell?_setCells_out g vs _ w ⟨g, off + i, none⟩ (fun _ _ => .inl (by simp only; omega))]
        exact h4 i u hu
      · by_cases h7 : i < o + vs.length
        · rw [List.append_assoc, List.getElem?_append_right (by simp; omega), List.getElem?_append_left (by simp; omega)] at hu
          have hto : (xs.take o).length = o := by simp; omega
          rw [hto] at hu
          have hj : i - o < vs.length := by omega
          have := World.cell?_setCells_in g vs (off + o) w hsome (i - o) hj
          have ei : off + o + (i - o) = off + i := by omega
          rw [ei] at this
          rw [this]
          rw [List.getElem?_eq_getElem hj] at hu
          exact hu
        · rw [List.getElem?_append_right (by simp; omega), List.getElem?_drop] at hu
          have hto : (xs.take o ++ vs).length = o + vs.length := by simp; omega
          rw [hto] at hu
          have ei : o + vs.length + (i - (o + vs.length)) = i := by omega
          rw [ei] at hu
          rw [World.cell?_setCells_out g vs _ w ⟨g, off + i, none⟩ (fun _ _ => .inr (by simp only; omega))]
          exact h4 i u hu
    · rw [World.frozen?_setCells]
      refine ⟨?_, (h5 i hi).2⟩
      by_cases h6 : o ≤ i ∧ i < o + vs.length
      · have := World.cell?_setCells_in g vs (off + o) w hsome (i - o) (by omega)
        have ei : off + o + (i - o) = off + i := by omega
        rw [ei] at this
        rw [this]; rfl
      · rw [World.cell?_setCells_out g vs _ w ⟨g, off + i, none⟩ (fun _ _ => by simp only; omega)]
        exact (h5 i hi).1

theorem Vec.there {w : World} {size n g off cap : Nat} {xs : List Value} (h : Vec w size (.slice (some ⟨g, off, none⟩) n cap) n xs) {o k : Nat} (ho : o + k ≤ n * size) : w.there g (off + o) k := by
  rcases h.form with ⟨h1, _⟩ | ⟨g', off', cap', he, h1, h2, h3, h4, h5⟩
  · cases h1
  · simp only [Value.slice.injEq, Option.some.injEq, Addr.mk.injEq, and_true, true_and] at he
    obtain ⟨⟨rfl, rfl⟩, rfl⟩ := he
    have hcap : n * size ≤ cap * size := Nat.mul_le_mul_right _ h1
    intro j hj
    rw [Nat.add_assoc]; exact h5 (o + j) (by omega)

section
variable {P : Program} (w : World)
theorem run_vec_append (t ty e : TypeId) (i : TypeInfo) (z : Value) (size bytes : Nat) (ht : P.underlying t = some (.slice e)) (hi : P.info? e = some i) (hz : i.zero = some z)
    (hsize : i.size = size) (hby : i.bytes = bytes) (hzs : z.cells.size = size) (hsz : 0 < size)
    (v : Value) (n : Nat) (xs : List Value) (hv : Vec w size v n xs)
    (a : Addr) (m c : Nat) (news : List Value) (hl : news.length = m * size) (hnews : ∀ j u, news[j]? = some u → w.cell? (a.add j) = some u) (h1 : ∀ u ∈ news, u.oneCell' = true)
    (h63 : n + m ≤ maxLen) (hbytes : (n + m) * bytes ≤ 140737488355328) :
    ∃ v' w', (Builtin.append_ #[t, t] ty #[v, .slice (some a) m c]).run P w = .ok v' w' ∧ Vec w' size v' (n + m) (xs ++ news) ∧ w.grownBy w' v.ownBlock ∧ (∀ k, v'.ownBlock = some k → v.ownBlock = some k ∨ w.heap.size ≤ k) := by
  rcases hv.form with ⟨rfl, rfl⟩ | ⟨g, off, cap, rfl, h2, h3, h4, h5, h6⟩
  · have hx : xs = [] := List.eq_nil_of_length_eq_zero (by simpa using hv.len)
    subst hx
    obtain ⟨v', w', hr, k1, k2, k3, k4⟩ := run_append_own_at (P := P) w w.heap.size t ty e i z size bytes ht hi hz hsize hby hzs hsz (.slice none 0 0) 0 [] (World.ownsRow_nil _ _ _ _) a m c news hl hnews h1 h63 hbytes (Nat.le_refl _)
    exact ⟨v', w', hr, Vec.of_owns k1, k2, fun k hk => .inr (k1.lt k hk).1⟩
  · by_cases hroom : n + m ≤ cap
    · subst hsize
      have hb : ∀ j, j < news.length → n * i.size + j < cap * i.size := fun j hj => by
        rw [hl] at hj
        have : (n + m) * i.size ≤ cap * i.size := Nat.mul_le_mul_right _ hroom
        rw [Nat.add_mul] at this
        omega
      have hr := run_append_room_cells (P := P) w t ty e i ht hi g off n cap a m c news hl hnews h1 hroom (fun j hj => by rw [Nat.add_assoc]; exact (h6 _ (hb j hj)).1) (fun j hj => by rw [Nat.add_assoc]; exact (h6 _ (hb j hj)).2)
      refine ⟨_, _, hr, ⟨by rw [List.length_append, hv.len, hl, Nat.add_mul], .inr ⟨g, off, cap, rfl, hroom, h3, ?_, ?_, ?_⟩⟩, ?_, fun k hk => .inl hk⟩
      · rw [size_setCells]; exact h4
      · intro j u hu
        rcases Nat.lt_or_ge j xs.length with hj | hj
        · rw [List.getElem?_append_left hj] at hu
          rw [World.cell?_setCells_out g news _ w ⟨g, off + j, none⟩ (fun _ _ => .inl (by simp only; rw [hv.len] at hj; omega))]
          exact h5 j u hu
        · rw [List.getElem?_append_right hj] at hu
          have hj2 : j - xs.length < news.length := (List.getElem?_eq_some_iff.1 hu).1
          have := World.cell?_setCells_in g news (off + n * i.size) w (fun j hj => by rw [Nat.add_assoc]; exact (h6 _ (hb j hj)).1) (j - xs.length) hj2
          have hxl := hv.len
          have e : off + n * i.size + (j - xs.length) = off + j := by omega
          rw [e] at this
          rw [this]
          rw [List.getElem?_eq_getElem hj2] at hu
          exact hu
      · intro j hj
        rw [World.frozen?_setCells]
        refine ⟨?_, (h6 j hj).2⟩
        by_cases hin : n * i.size ≤ j ∧ j < n * i.size + news.length
        · have := World.cell?_setCells_in g news (off + n * i.size) w (fun j hj => by rw [Nat.add_assoc]; exact (h6 _ (hb j hj)).1) (j - n * i.size) (by omega)
          have e : off + n * i.size + (j - n * i.size) = off + j := by omega
          rw [e] at this
          rw [this]; rfl
        · rw [World.cell?_setCells_out g news _ w ⟨g, off + j, none⟩ (fun _ _ => by simp only; omega)]
          exact (h6 j hj).1
      · exact grown_setCells _ _ _ _
    · obtain ⟨v', w', hr, k1, k2⟩ := run_append_arg_grows (P := P) w t ty e i z size bytes ht hi hz hsize hby hzs hsz ⟨g, off, none⟩ n cap xs hv.len (fun j u hu => by rw [add_mid' (⟨g, off, none⟩) j rfl]; exact h5 j u hu) a m c news hl hnews (by omega) h63 hbytes
      exact ⟨v', w', hr, Vec.of_owns k1, ⟨k2.os, k2.tape, k2.output, k2.size, fun k hk _ => k2.block k hk (by simp)⟩, fun k hk => .inr (k1.lt k hk).1⟩

theorem wp_vec_append {o : Oper} {a : Act} {K : Act → World → Prop} {Q : Exit → Act → World → Prop} (s x : Operand) (t : TypeId)
    (ho : o.op = .call { callee := .builtin .append, args := #[s, x], argTypes := #[t, t] })
    (e : TypeId) (i : TypeInfo) (z : Value) (size bytes : Nat) (ht : P.underlying t = some (.slice e)) (hi : P.info? e = some i) (hz : i.zero = some z)
    (hsize : i.size = size) (hby : i.bytes = bytes) (hzs : z.cells.size = size) (hsz : 0 < size)
    (v : Value) (n : Nat) (xs : List Value) (hs : a.eval s = v) (hv : Vec w size v n xs)
    (ad : Addr) (m c : Nat) (news : List Value) (hx : a.eval x = .slice (some ad) m c) (hl : news.length = m * size) (hnews : ∀ j u, news[j]? = some u → w.cell? (ad.add j) = some u) (h1 : ∀ u ∈ news, u.oneCell' = true)
    (h63 : n + m ≤ maxLen) (hbytes : (n + m) * bytes ≤ 140737488355328)
    (h : ∀ v' w', Vec w' size v' (n + m) (xs ++ news) → w.grownBy w' v.ownBlock → (∀ k, v'.ownBlock = some k → v.ownBlock = some k ∨ w.heap.size ≤ k) → K (a.put o.dst v') w') : o.wp P a w K Q := by
  obtain ⟨v', w', hr, h2, h3, h4⟩ := run_vec_append (P := P) w t o.type e i z size bytes ht hi hz hsize hby hzs hsz v n xs hv ad m c news hl hnews h1 h63 hbytes
  unfold Oper.wp execOp
  simp only [ho, resolve, invoke, builtin, Sem.run_bind, Sem.run_pure, Result.andThen_ok, List.map_toArray, List.map_cons, List.map_nil, hs, hx, hr]
  exact h v' w' h2 h3 h4

theorem wpList_vec_append {ops : Array Oper} {rest : List Oper} {o : Oper} {a : Act} {Q : Exit → Act → World → Prop} (hgd : o.guard = none) (s x : Operand) (t : TypeId)
    (ho : o.op = .call { callee := .builtin .append, args := #[s, x], argTypes := #[t, t] })
    (e : TypeId) (i : TypeInfo) (z : Value) (size bytes : Nat) (ht : P.underlying t = some (.slice e)) (hi : P.info? e = some i) (hz : i.zero = some z)
    (hsize : i.size = size) (hby : i.bytes = bytes) (hzs : z.cells.size = size) (hsz : 0 < size)
    (v : Value) (n : Nat) (xs : List Value) (hs : a.eval s = v) (hv : Vec w size v n xs)
    (ad : Addr) (m c : Nat) (news : List Value) (hx : a.eval x = .slice (some ad) m c) (hl : news.length = m * size) (hnews : ∀ j u, news[j]? = some u → w.cell? (ad.add j) = some u) (h1 : ∀ u ∈ news, u.oneCell' = true)
    (h63 : n + m ≤ maxLen) (hbytes : (n + m) * bytes ≤ 140737488355328)
    (h : ∀ v' w', Vec w' size v' (n + m) (xs ++ news) → w.grownBy w' v.ownBlock → (∀ k, v'.ownBlock = some k → v.ownBlock = some k ∨ w.heap.size ≤ k) → wpList P ops Q rest (a.put o.dst v') w') : wpList P ops Q (o :: rest) a w :=
  wpList_plain hgd fun _ hK => wp_vec_append w s x t ho e i z size bytes ht hi hz hsize hby hzs hsz v n xs hs hv ad m c news hx hl hnews h1 h63 hbytes fun v' w' h2 h3 h4 => hK _ _ (h v' w' h2 h3 h4)

theorem step_vec_append {ops : Array Oper} {o : Oper} {a : Act} {K : Act → World → Prop} {Q : Exit → Act → World → Prop} {E : Prop} (hgd : o.guard = none) (s x : Operand) (t : TypeId)
    (ho : o.op = .call { callee := .builtin .append, args := #[s, x], argTypes := #[t, t] })
    (e : TypeId) (i : TypeInfo) (z : Value) (size bytes : Nat) (ht : P.underlying t = some (.slice e)) (hi : P.info? e = some i) (hz : i.zero = some z)
    (hsize : i.size = size) (hby : i.bytes = bytes) (hzs : z.cells.size = size) (hsz : 0 < size)
    (v : Value) (n : Nat) (xs : List Value) (hs : a.eval s = v) (hv : Vec w size v n xs)
    (ad : Addr) (m c : Nat) (news : List Value) (hx : a.eval x = .slice (some ad) m c) (hl : news.length = m * size) (hnews : ∀ j u, news[j]? = some u → w.cell? (ad.add j) = some u) (h1 : ∀ u ∈ news, u.oneCell' = true)
    (h63 : n + m ≤ maxLen) (hbytes : (n + m) * bytes ≤ 140737488355328)
    (h : ∀ v' w', Vec w' size v' (n + m) (xs ++ news) → w.grownBy w' v.ownBlock → (∀ k, v'.ownBlock = some k → v.ownBlock = some k ∨ w.heap.size ≤ k) → K (a.put o.dst v') w') :
    if Region.wanted o (yielded ops a.tmps) = true then Oper.wp P o a w K Q else E := by
  have hw : Region.wanted o (yielded ops a.tmps) = true := by simp [Region.wanted, hgd]
  rw [if_pos hw]
  exact wp_vec_append w s x t ho e i z size bytes ht hi hz hsize hby hzs hsz v n xs hs hv ad m c news hx hl hnews h1 h63 hbytes h
end

section
variable {α : Type} (f : α → List Value) (k : Nat)
theorem flat_length : ∀ l : List α, (∀ x ∈ l, (f x).length = k) → (l.flatMap f).length = l.length * k
  | [], _ => by simp
  | x :: r, h => by
    rw [List.flatMap_cons, List.length_append, flat_length r fun y hy => h y (by simp [hy]), h x (by simp), List.length_cons, Nat.add_mul, Nat.one_mul, Nat.add_comm]
theorem flat_take : ∀ (l : List α) (j : Nat), (∀ x ∈ l, (f x).length = k) → j ≤ l.length → (l.flatMap f).take (j * k) = (l.take j).flatMap f
  | l, 0, _, _ => by simp
  | x :: r, j + 1, h, hj => by
    have hx := h x (by simp)
    rw [List.flatMap_cons, List.take_succ_cons, List.flatMap_cons, Nat.add_mul, Nat.one_mul, Nat.add_comm (j * k) k, ← hx, List.take_append, hx]
    have e : k + j * k - k = j * k := by omega
    rw [e, flat_take r j (fun y hy => h y (by simp [hy])) (by simpa using hj), List.take_of_length_le (by omega)]
theorem flat_drop : ∀ (l : List α) (j : Nat), (∀ x ∈ l, (f x).length = k) → j ≤ l.length → (l.flatMap f).drop (j * k) = (l.drop j).flatMap f
  | l, 0, _, _ => by simp
  | x :: r, j + 1, h, hj => by
    have hx := h x (by simp)
    rw [List.flatMap_cons, List.drop_succ_cons, Nat.add_mul, Nat.one_mul, Nat.add_comm (j * k) k, ← hx, List.drop_append, hx]
    have e : k + j * k - k = j * k := by omega
    rw [e, flat_drop r j (fun y hy => h y (by simp [hy])) (by simpa using hj), List.drop_eq_nil_of_le (by omega), List.nil_append]
theorem flat_set (l : List α) (j : Nat) (x : α) (h : ∀ y ∈ l, (f y).length = k) (hx : (f x).length = k) (hj : j < l.length) :
    (l.flatMap f).take (j * k) ++ f x ++ (l.flatMap f).drop (j * k + (f x).length) = (l.set j x).flatMap f := by
  have e : j * k + (f x).length = (j + 1) * k := by rw [hx, Nat.add_mul, Nat.one_mul]
  rw [e, flat_take f k l j h (by omega), flat_drop f k l (j + 1) h (by omega), List.set_eq_take_append_cons_drop, if_pos hj, List.flatMap_append, List.flatMap_cons, List.append_assoc]
theorem flat_at (l : List α) (j : Nat) (h : ∀ y ∈ l, (f y).length = k) (hj : j < l.length) : ∀ i u, (f l[j])[i]? = some u → (l.flatMap f)[j * k + i]? = some u := by
  intro i u hu
  have hi : i < k := by
    have := (List.getElem?_eq_some_iff.1 hu).1
    rwa [h _ (List.getElem_mem hj)] at this
  have h1 : ((l.flatMap f).drop (j * k))[i]? = some u := by
    rw [flat_drop f k l j h (by omega), List.drop_eq_getElem_cons hj, List.flatMap_cons, List.getElem?_append_left (by rw [h _ (List.getElem_mem hj)]; exact hi)]
    exact hu
  rwa [List.getElem?_drop] at h1
end

theorem Vec.elem {α : Type} {f : α → List Value} {w : World} {size n g off cap : Nat} {l : List α} (h : Vec w size (.slice (some ⟨g, off, none⟩) n cap) n (l.flatMap f)) (hf : ∀ y ∈ l, (f y).length = size) {j : Nat} (hj : j < l.length) :
    w.rangeAt g (off + j * size) (f l[j]) := by
  intro i u hu
  have := h.range (j * size + i) u (flat_at f size l j hf hj i u hu)
  rwa [← Nat.add_assoc] at this
theorem Vec.setElem {α : Type} {f : α → List Value} {w : World} {size n g off cap : Nat} {l : List α} (h : Vec w size (.slice (some ⟨g, off, none⟩) n cap) n (l.flatMap f)) (hf : ∀ y ∈ l, (f y).length = size) {j : Nat} (hj : j < l.length) (hn : n = l.length) (x : α) (hx : (f x).length = size) :
    Vec (w.setCells g (off + j * size) (f x)) size (.slice (some ⟨g, off, none⟩) n cap) n ((l.set j x).flatMap f) := by
  rw [← flat_set f size l j x hf hx hj]
  refine h.put ?_
  rw [hx, hn]
  have : (j + 1) * size ≤ l.length * size := Nat.mul_le_mul_right _ hj
  rwa [Nat.add_mul, Nat.one_mul] at this

end Go.Proofs.YteoeaojebklfjaaGreatDoor
namespace Go.Proofs.YteoeaojebklfjaaGreatDoor
open Go.RowKit Go.WideShapes Go.ChangeShapes
set_option linter.unusedVariables false

theorem list_of {α : Type} (p : Nat → α → Prop) : ∀ n : Nat, (∀ j, j < n → ∃ x, p j x) → ∃ l : List α, l.length = n ∧ ∀ j (hj : j < l.length), p j l[j]
  | 0, _ => ⟨[], rfl, fun j hj => absurd hj (by simp)⟩
  | n + 1, h => by
    obtain ⟨l, hl, hp⟩ := list_of p n fun j hj => h j (by omega)
    obtain ⟨x, hx⟩ := h n (by omega)
    refine ⟨l ++ [x], by simp [hl], fun j hj => ?_⟩
    rcases Nat.lt_or_ge j l.length with h1 | h1
    · rw [List.getElem_append_left h1]; exact hp j h1
    · have : j = l.length := by simp at hj; omega
      subst this
      rw [List.getElem_append_right (Nat.le_refl _)]
      simp only [Nat.sub_self, List.getElem_cons_zero]
      rw [hl]; exact hx

theorem okWide_lies {P : Program} {W : World} {base : Nat} {t e : TypeId} {x : Addr} {len cap : Nat} (ht : P.underlying t = some (.slice e)) (h : Value.okWide P W .any base t (.slice (some x) len cap)) : x.spot = none ∧ x.block < W.heap.size := by
  simp only [Value.okWide, ht, Cell.okWide, Cell.ok, World.has] at h
  obtain ⟨_, _, _, hs, row, cells, hsh, _⟩ := h
  refine ⟨hs, ?_⟩
  rcases Nat.lt_or_ge x.block W.heap.size with h' | h'
  · exact h'
  · simp [World.shape?, Array.getElem?_eq_none h'] at hsh

theorem okWide_slice' {P : Program} {W : World} {base : Nat} {t e : TypeId} {v : Value} (ht : P.underlying t = some (.slice e)) (h : Value.okWide P W .any base t v) : ∃ a len cap, v = .slice a len cap := by
  simp only [Value.okWide, ht, Cell.okWide] at h
  cases v <;> simp only [Cell.ok, ht] at h
  exact ⟨_, _, _, rfl⟩

theorem okWide_int' {P : Program} {W : World} {base : Nat} {t : TypeId} {k : IntKind} {v : Value} (ht : P.underlying t = some (.int k)) (h : Value.okWide P W .any base t v) : ∃ a, v = .int k a := by
  simp only [Value.okWide, ht, Cell.okWide] at h
  cases v <;> simp only [Cell.ok, ht] at h
  rename_i k' n
  obtain ⟨rfl, _⟩ := h
  exact ⟨_, rfl⟩

structure Rd (w : World) (size : Nat) (v : Value) (n : Nat) (xs : List Value) : Prop where
  len : xs.length = n * size
  form : (v = .slice none 0 0 ∧ n = 0) ∨ ∃ ad cap, v = .slice (some ad) n cap ∧ n ≤ cap ∧ cap ≤ maxLen ∧ ∀ j u, xs[j]? = some u → w.cell? (ad.add j) = some u

theorem Vec.rd {w : World} {size n : Nat} {v : Value} {xs : List Value} (h : Vec w size v n xs) : Rd w size v n xs :=
  ⟨h.len, h.form.imp id fun ⟨g, off, cap, a, b, c, d, e, _⟩ => ⟨⟨g, off, none⟩, cap, a, b, c, fun j u hu => by rw [add_mid' (⟨g, off, none⟩) j rfl]; exact e j u hu⟩⟩

section
variable {w w' : World} {size n : Nat} {v : Value} {xs : List Value}
theorem Rd.kept (h : Rd w size v n xs) (hb : xs ≠ [] → ∀ g, v.ownBlock = some g → g < w.heap.size → w'.heap[g]? = w.heap[g]?) : Rd w' size v n xs := by
  refine ⟨h.len, h.form.imp id fun ⟨ad, cap, a, b, c, d⟩ => ⟨ad, cap, a, b, c, fun j u hu => ?_⟩⟩
  have hc := d j u hu
  have hlt := World.block_lt_of_cell? w _ hc
  have e : (ad.add j).block = ad.block := by unfold Addr.add; split <;> rfl
  rw [← hc]
  refine World.cell?_of_block ?_
  rw [e] at hlt ⊢
  exact hb (fun e => by rw [e] at hu; simp at hu) ad.block (by rw [a]; rfl) hlt
theorem Rd.only (h : Rd w size v n xs) {F : Nat → Prop} (ho : Only F w w') (hb : xs ≠ [] → ∀ g, v.ownBlock = some g → g < w.heap.size → ¬ F g) : Rd w' size v n xs :=
  h.kept fun hx g hg hl => ho.block g hl (hb hx g hg hl)
theorem Rd.below (h : Rd w size v n xs) (hb : Below w.heap.size w w') : Rd w' size v n xs := h.kept fun _ g _ hl => hb.block g hl
theorem Rd.at_ (h : Rd w size v n xs) (h0 : 0 < n * size) : ∃ g off cap, v = .slice (some ⟨g, off, none⟩) n cap ∧ g < w.heap.size ∧ ∀ j u, xs[j]? = some u → w.cell? ⟨g, off + j, none⟩ = some u := by
  rcases h.form with ⟨_, rfl⟩ | ⟨⟨g, off, s⟩, cap, a, b, c, d⟩
  · omega
  · have hl : 0 < xs.length := by rw [h.len]; exact h0
    have h1 := d 0 _ (List.getElem?_eq_getElem hl)
    have hs : s = none := by
      cases s with
      | none => rfl
      | some s =>
        simp only [Addr.add, if_true, World.cell?] at h1
        split at h1 <;> simp at h1
    subst hs
    refine ⟨g, off, cap, a, ?_, fun j u hu => ?_⟩
    · have := World.block_lt_of_cell? w _ h1
      simpa [Addr.add] using this
    · have := d j u hu
      rwa [add_mid' (⟨g, off, none⟩) j rfl] at this
theorem Rd.lt (h : Rd w size v n xs) (hx : xs ≠ []) {g : Nat} (hg : v.ownBlock = some g) : g < w.heap.size := by
  have hl : 0 < n * size := by rw [← h.len]; exact List.length_pos_iff.2 hx
  obtain ⟨g', off, cap, rfl, h1, _⟩ := h.at_ hl
  injection hg with hg
  exact hg ▸ h1
theorem Rd.shape (h : Rd w size v n xs) : ∃ a cap, v = .slice a n cap := by
  rcases h.form with ⟨rfl, rfl⟩ | ⟨ad, cap, a, _⟩
  · exact ⟨_, _, rfl⟩
  · exact ⟨_, _, a⟩
end

theorem Rd.shape' {w : World} {size n : Nat} {v : Value} {xs : List Value} (h : Rd w size v n xs) : ∃ a k c, v = .slice a k c := by
  obtain ⟨a, c, e⟩ := h.shape
  exact ⟨a, n, c, e⟩

theorem rd_bools {H : Type} {P : Program} {enc : TypeId × Value → H} {W : World} {spare : Nat → Bool} {held : Bool} {t e : TypeId} {fuel : Nat} {v : Value} {x : DataW H × List MemPlace}
    (ht : P.underlying t = some (.slice e)) (he : P.underlying e = some .bool) (hc : P.cellsOf e = 1) (h : DataW.trod enc P W 0 spare held fuel t [v] = some x) (hw : ∀ n ∈ x.1.weights P t, n ≤ reachBytes) :
    ∃ l : List Bool, Rd W 1 v l.length (l.map Value.bool) ∧ l.length * P.bytesOf e ≤ reachBytes := by
  rcases Go.Deep.open_slice1 ht hc h with ⟨hv, _⟩ | ⟨a, len, cap, m, n, V, D, Pl, hv, _, hl, hm, hmm, hxe, hx⟩
  · simp at hv
    exact ⟨[], ⟨by simp, .inl ⟨hv, rfl⟩⟩, by simp⟩
  · simp at hv
    have hlm : len ≤ m := by rw [hmm]; split <;> omega
    have hww : (len + (m - len)) * P.bytesOf e ≤ reachBytes := by
      rw [hxe] at hw
      refine hw _ ?_
      simp [DataW.weights, ht]
    have key : ∀ j, j < len → ∃ b : Bool, W.cell? (a.add j) = some (.bool b) := by
      intro j hj
      obtain ⟨h1, h2⟩ := hx j (by omega)
      obtain ⟨b, q, _⟩ := DataW.trod_bool he h2
      simp at q
      exact ⟨b, by rw [h1, q]⟩
    obtain ⟨l, hll, hp⟩ := list_of _ len key
    refine ⟨l, ⟨by simp, .inr ⟨a, cap, by rw [hv, hll], by omega, hm, fun j u hu => ?_⟩⟩, Nat.le_trans (Nat.mul_le_mul_right _ (by omega)) hww⟩
    rw [List.getElem?_map] at hu
    cases hj : l[j]? with
    | none => rw [hj] at hu; cases hu
    | some b =>
      rw [hj] at hu
      injection hu with hu
      obtain ⟨h1, rfl⟩ := List.getElem?_eq_some_iff.1 hj
      rw [← hu]; exact hp j h1

theorem open_bools {H : Type} {P : Program} {enc : TypeId × Value → H} {W : World} {base : Nat} {t e : TypeId} {v : Value} {d : DataW H} {ps : List MemPlace}
    (ht : P.underlying t = some (.slice e)) (he : P.underlying e = some .bool) (hc : P.cellsOf e = 1) (hok : Value.okWide P W .any base t v) (hd : DataW.Trod enc P W 0 (fun _ => true) true t v d ps) (hw : ∀ n ∈ d.weights P t, n ≤ reachBytes) :
    ∃ l : List Bool, Rd W 1 v l.length (l.map Value.bool) ∧ l.length * P.bytesOf e ≤ reachBytes := by
  obtain ⟨fuel, hm⟩ := hd
  obtain ⟨a, len, cap, rfl⟩ := okWide_slice' ht hok
  exact rd_bools ht he hc (x := (d, ps)) (by simpa [Value.cells] using hm) hw

structure Suits (P : Program) (W : World) (t : TypeId) (v : Value) : Prop where
  int : ∀ k, P.underlying t = some (.int k) → ∃ n, v = .int k n ∧ (Lit.int k n).wf = true
  string : P.underlying t = some .string → ∃ s : ByteArray, v = .string s ∧ s.size ≤ reachBytes
  bool : P.underlying t = some .bool → ∃ b, v = .bool b
  row : ∀ e, P.underlying t = some (.slice e) → P.underlying e = some .bool → P.cellsOf e = 1 → ∃ l : List Bool, Rd W 1 v l.length (l.map Value.bool) ∧ l.length * P.bytesOf e ≤ reachBytes

theorem weights_all_mem {H : Type} {P : Program} {e : TypeId} : ∀ {ds : List (DataW H)} {d : DataW H}, d ∈ ds → ∀ n ∈ d.weights P e, n ∈ DataW.weightsAll P e ds
  | x :: r, d, hd, n, hn => by
    simp only [DataW.weightsAll, List.mem_append]
    rcases List.mem_cons.1 hd with rfl | hd
    · exact .inl hn
    · exact .inr (weights_all_mem hd n hn)

theorem open_flat {H : Type} {P : Program} {enc : TypeId × Value → H} {W : World} {base : Nat} {t e : TypeId} {fs : Array Field} {v : Value} {d : DataW H} {ps : List MemPlace}
    (ht : P.underlying t = some (.slice e)) (he : P.underlying e = some (.struct fs)) (hone : Go.Deep.oneCellFields P fs = true) (hC : P.cellsOf e = fs.size)
    (hok : Value.okWide P W .any base t v) (hd : DataW.Trod enc P W 0 (fun _ => true) true t v d ps) (hw : ∀ n ∈ d.weights P t, n ≤ reachBytes) :
    ∃ a len cap, v = .slice a len cap ∧ len * P.bytesOf e ≤ reachBytes ∧ (a = none → len = 0 ∧ cap = 0) ∧ (∀ x, a = some x → x.spot = none ∧ x.block < W.heap.size) ∧ len ≤ cap ∧ cap ≤ maxLen ∧
      ∀ j, j < len → ∃ b off, a = some ⟨b, off, none⟩ ∧ ∀ (i : Nat) (f : Field), fs[i]? = some f → ∃ u, W.cell? ⟨b, off + j * fs.size + i, none⟩ = some u ∧ Suits P W f.type u := by
  obtain ⟨fuel, hm⟩ := hd
  obtain ⟨a, len, cap, rfl⟩ := okWide_slice' ht hok
  rcases Go.Deep.open_slice ht hm with ⟨hcs, hx⟩ | ⟨x, l, c, m', n, D, Pl, hcs, hb, hl, hm', hmm, hx, hall⟩
  · simp [Value.cells] at hcs
    obtain ⟨rfl, rfl, rfl⟩ := hcs
    exact ⟨none, 0, 0, rfl, by omega, fun _ => ⟨rfl, rfl⟩, (fun x h => by cases h), Nat.le_refl _, Nat.zero_le _, fun j hj => by omega⟩
  · simp [Value.cells] at hcs
    obtain ⟨rfl, rfl, rfl⟩ := hcs
    obtain ⟨hs, hlt⟩ := okWide_lies ht hok
    obtain ⟨b, off, s⟩ := x
    simp only at hs hlt
    subst hs
    have hlm : len ≤ m' := by rw [hmm]; split <;> omega
    simp only [Prod.mk.injEq] at hx
    obtain ⟨hdx, -⟩ := hx
    have hww : ∀ n ∈ (len + (m' - len)) * P.bytesOf e :: (DataW.weightsAll P e ((List.range len).map D) ++ DataW.weightsAll P e ((List.range (m' - len)).map fun j => D (len + j))), n ≤ reachBytes := by
      rw [hdx] at hw
      simpa [DataW.weights, ht] using hw
    have hsz := hww _ (List.mem_cons_self ..)
    refine ⟨some ⟨b, off, none⟩, len, cap, rfl, Nat.le_trans (Nat.mul_le_mul_right _ (by omega)) hsz, (fun h => by cases h), (fun x h => by injection h with h; subst h; exact ⟨rfl, hlt⟩), hl, hm', fun j hj => ⟨b, off, rfl, fun i f hf => ?_⟩⟩
    obtain ⟨cs, h1, h2⟩ := hall j (by omega)
    rw [hC] at h1
    obtain ⟨ys, n', _, hy, hlen, hyl, hff⟩ := DataW.trod_struct he h2
    obtain ⟨ho, hk⟩ := Go.Deep.hone_of hone i f hf
    have hil : i < fs.size := (Array.getElem?_eq_some_iff.1 hf).1
    obtain ⟨_, hcl, hat⟩ := World.cells?_some h1
    have hcell := hat i hil
    have hil' : i < cs.length := by rw [hcl]; exact hil
    have hg := hff i f hf
    rw [ho, hk] at hg
    have hdrop : (cs.drop i).take 1 = [cs[i]] := by
      rw [List.drop_eq_getElem_cons hil']; rfl
    have hyi : ys[i]? = some (ys[i]'(by omega)) := List.getElem?_eq_getElem (by omega)
    rw [hdrop, hyi] at hg
    have hDj : D j = .agg (ys.map (·.1)) := by simp only [Prod.mk.injEq] at hy; exact hy.1
    have hwj : ∀ n ∈ (ys[i]'(by omega)).1.weights P f.type, n ≤ reachBytes := by
      intro n hn
      refine hww n (List.mem_cons_of_mem _ (List.mem_append_left _ (weights_all_mem (d := D j) (List.mem_map.2 ⟨j, List.mem_range.2 hj, rfl⟩) n ?_)))
      rw [hDj]
      have : n ∈ DataW.weightsEach P (fs.toList.map (·.type)) (ys.map (·.1)) := by
        refine DataW.weights_mem_each (j := i) (t := f.type) (d := (ys[i]'(by omega)).1) ?_ ?_ n hn
        · rw [List.getElem?_map, Array.getElem?_toList, hf]; rfl
        · rw [List.getElem?_map, hyi]; rfl
      simpa [DataW.weights, he] using this
    refine ⟨cs[i], ?_, ?_, ?_, ?_, ?_⟩
    · rw [List.getElem?_eq_getElem hil'] at hcell
      rw [← hcell]
      congr 1
      rw [Go.Deep.add_add]
      have aux : ∀ q : Nat, (⟨b, off, none⟩ : Addr).add q = ⟨b, off + q, none⟩ := fun q => by cases q <;> simp [Addr.add]
      rw [aux, Nat.add_assoc]
    · intro k hu
      obtain ⟨i0, q0, _, h4⟩ := DataW.trod_int hu hg
      simp at q0
      exact ⟨i0, q0, h4⟩
    · intro hu
      obtain ⟨s0, q0, q1, _⟩ := DataW.trod_string hu hg
      simp at q0
      refine ⟨s0, q0, ?_⟩
      have := hwj s0.data.toList.length (by rw [q1]; simp [DataW.weights])
      simpa using this
    · intro hu
      obtain ⟨b0, q0, _⟩ := DataW.trod_bool hu hg
      simp at q0
      exact ⟨b0, q0⟩
    · intro e' hu hb hce
      exact rd_bools hu hb hce hg hwj

end Go.Proofs.YteoeaojebklfjaaGreatDoor
namespace Go.Proofs.YteoeaojebklfjaaGreatDoor
open Go.RowKit Go.Maps
set_option linter.unusedVariables false

abbrev Sec := List UInt8

structure Dk where
  lasts : List Sec
  waits : List (Nat × Sec)
  done : Int
  dead : Bool
  set : Bool
  left : Int
  keep : List Bool

def bv (s : Sec) : List Value := s.map fun c => .int .u8 (c.toNat : Int)
def wv (p : Nat × Sec) : List Value := .int .i64 (p.1 : Int) :: bv p.2
def bo (l : List Bool) : List Value := l.map Value.bool

theorem bv_length (s : Sec) : (bv s).length = s.length := by simp [bv]
theorem wv_length (p : Nat × Sec) : (wv p).length = p.2.length + 1 := by simp [wv, bv_length]
theorem bv_one (s : Sec) : ∀ u ∈ bv s, u.oneCell' = true := by
  intro u hu
  obtain ⟨c, _, rfl⟩ := List.mem_map.1 hu
  rfl

def lastIx : List (Nat × Sec) → Nat → Option Nat
  | [], _ => none
  | p :: r, i => match lastIx r i with
    | some k => some (k + 1)
    | none => if p.1 = i then some 0 else none
theorem lastIx_snoc (p : Nat × Sec) (i : Nat) : ∀ ws : List (Nat × Sec), lastIx (ws ++ [p]) i = if p.1 = i then some ws.length else lastIx ws i
  | [] => by simp [lastIx]
  | q :: r => by
    simp only [List.cons_append, lastIx, lastIx_snoc p i r, List.length_cons]
    by_cases e : p.1 = i <;> simp [e]
theorem lastIx_lt {i k : Nat} : ∀ {ws : List (Nat × Sec)}, lastIx ws i = some k → ∃ h : k < ws.length, ws[k].1 = i
  | [], h => by simp [lastIx] at h
  | q :: r, h => by
    simp only [lastIx] at h
    split at h
    · rename_i k' hk
      injection h with h
      subst h
      obtain ⟨h1, h2⟩ := lastIx_lt hk
      exact ⟨by simp; omega, by simpa using h2⟩
    · split at h
      · injection h with h
        subst h
        exact ⟨by simp, by simpa⟩
      · cases h

def Dk.read (d : Dk) (i : Nat) : Sec := match lastIx d.waits i with
  | some k => (d.waits.getD k (0, [])).2
  | none => d.lasts.getD i []

def settle (kept : Nat → Bool) : Nat → List (Nat × Sec) → List Sec → List Sec
  | _, [], L => L
  | k, p :: r, L => settle kept (k + 1) r (if kept k then L.set p.1 p.2 else L)
theorem settle_length (kept : Nat → Bool) : ∀ (ws : List (Nat × Sec)) (k : Nat) (L : List Sec), (settle kept k ws L).length = L.length
  | [], _, _ => rfl
  | p :: r, k, L => by
    unfold settle
    rw [settle_length kept r]
    split <;> simp

structure Dk.Ok (d : Dk) : Prop where
  lasts : ∀ s ∈ d.lasts, s.length = 512
  waits : ∀ p ∈ d.waits, p.1 < d.lasts.length ∧ p.2.length = 512
  many : d.lasts.length ≤ 65536

theorem settle_ok (kept : Nat → Bool) {n : Nat} : ∀ (ws : List (Nat × Sec)) (k : Nat) (L : List Sec), (∀ p ∈ ws, p.1 < n ∧ p.2.length = 512) → (∀ s ∈ L, s.length = 512) → ∀ s ∈ settle kept k ws L, s.length = 512
  | [], _, _, _, h => h
  | p :: r, k, L, hw, h => by
    unfold settle
    refine settle_ok kept r (k + 1) _ (fun q hq => hw q (by simp [hq])) ?_
    split
    · intro s hs
      rcases List.mem_or_eq_of_mem_set hs with h1 | h1
      · exact h s h1
      · subst h1; exact (hw p (by simp)).2
    · exact h

structure NowOf (M : DataW Unit) (ws : List (Nat × Sec)) : Prop where
  tidy : Tidy M
  has : ∀ i : Nat, Maps.has M (.int .i64 (i : Int)) = (lastIx ws i).isSome
  at_ : ∀ (i k : Nat) (z : DataW Unit), lastIx ws i = some k → M.atKey (.int .i64 (i : Int)) z = .lit (.int .i64 (k : Int))

theorem NowOf.nil : NowOf (.map []) [] := ⟨tidy_empty, fun i => by simp [Maps.has, lastIx], fun i k z h => by simp [lastIx] at h⟩
theorem ilit_inj {a b : Nat} (h : (Lit.int .i64 (a : Int)) = .int .i64 (b : Int)) : a = b := by
  injection h with _ h
  omega
theorem ikey (i : Int) : WideAt.IsKeyLit (.int .i64 i) := trivial

theorem NowOf.put {M : DataW Unit} {ws : List (Nat × Sec)} (h : NowOf M ws) (p : Nat × Sec) : NowOf (M.put (.int .i64 (p.1 : Int)) (.lit (.int .i64 (ws.length : Int)))) (ws ++ [p]) := by
  refine ⟨h.tidy.put (ikey _) _, fun i => ?_, fun i k z hk => ?_⟩
  · rw [lastIx_snoc]
    by_cases e : p.1 = i
    · subst e
      rw [if_pos rfl, has_put_same h.tidy.isMap (ikey _)]; rfl
    · rw [if_neg e, has_put_other (fun e' => e (ilit_inj e').symm), h.has]
  · rw [lastIx_snoc] at hk
    by_cases e : p.1 = i
    · subst e
      rw [if_pos rfl] at hk
      injection hk with hk
      subst hk
      exact atKey_put_same h.tidy.isMap (ikey _) _ _
    · rw [if_neg e] at hk
      rw [atKey_put_other (fun e' => e (ilit_inj e').symm)]
      exact h.at_ i k z hk

end Go.Proofs.YteoeaojebklfjaaGreatDoor
