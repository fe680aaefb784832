/- LruNever: the memory between the steps. -/
import Derived.Test.YthmdaekkpihlnaaS1
namespace Go.Proofs.Ythmdaekkpihlnaa
open Go.RowKit
set_option linter.unusedVariables false

structure Nev (w0 w : World) (B M : Nat) (E Y : Int) (l : List Node) (L : List Ent) (vk vt : Value) (K : List ByteArray) (T : List Ent) : Prop where
  sh : Sh w0.heap.size w B M E Y l L
  keys : Vec w 1 vk K.length (strs K)
  last : Vec w 4 vt T.length (cellsOf T)
  dk : ∀ b, vk.ownBlock = some b → ¬ Own B M l b ∧ w0.heap.size ≤ b
  dt : ∀ b, vt.ownBlock = some b → ¬ Own B M l b ∧ w0.heap.size ≤ b
  ap : ∀ b, vk.ownBlock = some b → vt.ownBlock ≠ some b
  bel : Below w0.heap.size w0 w

/-- a block of nobody's -/
structure Pin (w : World) (B M : Nat) (l : List Node) (vk vt : Value) (b : Nat) (o : Obj) : Prop where
  lt : b < w.heap.size
  no : ¬ Own B M l b
  nk : vk.ownBlock ≠ some b
  nt : vt.ownBlock ≠ some b
  is : w.heap[b]? = some o

section
variable {w0 w w' : World} {B M : Nat} {E Y : Int} {l l' : List Node} {L L' : List Ent} {vk vt vk' vt' : Value} {K : List ByteArray} {T : List Ent}

theorem Nev.new (h : Nev w0 w B M E Y l L vk vt K T) (n : Only None' w w') : Nev w0 w' B M E Y l L vk vt K T :=
  ⟨h.sh.new n, h.keys.only n fun _ _ h => h, h.last.only n fun _ _ h => h, h.dk, h.dt, h.ap, h.bel.trans (n.below h.bel.size fun _ h => h.elim)⟩

theorem Nev.turn (h : Nev w0 w B M E Y l L vk vt K T) (S' : Sh w0.heap.size w' B M E Y l' L') (k : Kept (Own B M l) (Own B M l') w w') : Nev w0 w' B M E Y l' L' vk vt K T := by
  have hh : ∀ (v : Value), (∀ b, v.ownBlock = some b → ¬ Own B M l b ∧ w0.heap.size ≤ b) → (∀ b, v.ownBlock = some b → b < w.heap.size) → ∀ b, v.ownBlock = some b → ¬ Own B M l' b ∧ w0.heap.size ≤ b := by
    intro v hv hlt b hb
    refine ⟨fun hb' => ?_, (hv b hb).2⟩
    rcases k.fresh b hb' with h1 | h1
    · exact (hv b hb).1 h1
    · have := hlt b hb; omega
  exact ⟨S', h.keys.only k.only fun b hb => (h.dk b hb).1, h.last.only k.only fun b hb => (h.dt b hb).1, hh vk h.dk fun b hb => h.keys.lt hb, hh vt h.dt fun b hb => h.last.lt hb, h.ap, h.bel.trans (k.only.below h.bel.size fun b hb => h.sh.shelf.ge hb)⟩

theorem Nev.keyed (h : Nev w0 w B M E Y l L vk vt K T) (hO : Only (fun b => vk.ownBlock = some b) w w') {k : ByteArray} (hV : Vec w' 1 vk' (K.length + 1) (strs K ++ [.string k])) (hb : ∀ b, vk'.ownBlock = some b → vk.ownBlock = some b ∨ w.heap.size ≤ b) :
    Nev w0 w' B M E Y l L vk' vt (K ++ [k]) T := by
  refine ⟨h.sh.kept hO fun b hb' h1 => (h.dk b h1).1 hb', by rw [List.length_append, strs_append]; exact hV, h.last.only hO fun b hb' h1 => h.ap b h1 hb', fun b hb' => ?_, h.dt, fun b hb' => ?_, h.bel.trans (hO.below h.bel.size fun b h1 => (h.dk b h1).2)⟩
  · rcases hb b hb' with h1 | h1
    · exact h.dk b h1
    · exact ⟨h.sh.out h1, Nat.le_trans h.bel.size h1⟩
  · rcases hb b hb' with h1 | h1
    · exact h.ap b h1
    · intro h2; have := h.last.lt h2; omega

theorem Nev.lasted (h : Nev w0 w B M E Y l L vk vt K T) (hO : Only (fun b => vt.ownBlock = some b) w w') {x : Ent} (hV : Vec w' 4 vt' (T.length + 1) (cellsOf T ++ x.cells)) (hb : ∀ b, vt'.ownBlock = some b → vt.ownBlock = some b ∨ w.heap.size ≤ b) :
    Nev w0 w' B M E Y l L vk vt' K (T ++ [x]) := by
  have e1 : cellsOf [x] = x.cells := by simp [cellsOf]
  refine ⟨h.sh.kept hO fun b hb' h1 => (h.dt b h1).1 hb', h.keys.only hO fun b hb' h1 => h.ap b hb' h1, by rw [List.length_append, cellsOf_append, e1]; exact hV, h.dk, fun b hb' => ?_, fun b hb' h2 => ?_, h.bel.trans (hO.below h.bel.size fun b h1 => (h.dt b h1).2)⟩
  · rcases hb b hb' with h1 | h1
    · exact h.dt b h1
    · exact ⟨h.sh.out h1, Nat.le_trans h.bel.size h1⟩
  · rcases hb b h2 with h1 | h1
    · exact h.ap b hb' h1
    · have := h.keys.lt hb'; omega

theorem Pin.turn {b : Nat} {o : Obj} (h : Pin w B M l vk vt b o) (k : Kept (Own B M l) (Own B M l') w w') : Pin w' B M l' vk vt b o := by
  obtain ⟨h1, h2, h3⟩ := k.stay h.lt h.no
  exact ⟨h1, h2, h.nk, h.nt, h3.trans h.is⟩
theorem Pin.new {b : Nat} {o : Obj} (h : Pin w B M l vk vt b o) (n : Only None' w w') : Pin w' B M l vk vt b o :=
  ⟨Nat.lt_of_lt_of_le h.lt n.size, h.no, h.nk, h.nt, (n.block b h.lt fun h => h).trans h.is⟩
theorem Pin.made (h : Nev w0 w B M E Y l L vk vt K T) (o : Obj) : Pin (w.alloc o) B M l vk vt w.heap.size o :=
  ⟨by simp, h.sh.out (Nat.le_refl _), fun hk => absurd (h.keys.lt hk) (by omega), fun hk => absurd (h.last.lt hk) (by omega), heap_alloc_new w o⟩
theorem Pin.keyed {b : Nat} {o : Obj} (h : Pin w B M l vk vt b o) (hO : Only (fun b => vk.ownBlock = some b) w w') (hb : ∀ b, vk'.ownBlock = some b → vk.ownBlock = some b ∨ w.heap.size ≤ b) : Pin w' B M l vk' vt b o :=
  ⟨Nat.lt_of_lt_of_le h.lt hO.size, h.no, fun h1 => by rcases hb _ h1 with h2 | h2; exact h.nk h2; have := h.lt; omega, h.nt, (hO.block b h.lt h.nk).trans h.is⟩
theorem Pin.lasted {b : Nat} {o : Obj} (h : Pin w B M l vk vt b o) (hO : Only (fun b => vt.ownBlock = some b) w w') (hb : ∀ b, vt'.ownBlock = some b → vt.ownBlock = some b ∨ w.heap.size ≤ b) : Pin w' B M l vk vt' b o :=
  ⟨Nat.lt_of_lt_of_le h.lt hO.size, h.no, h.nk, fun h1 => by rcases hb _ h1 with h2 | h2; exact h.nt h2; have := h.lt; omega, (hO.block b h.lt h.nt).trans h.is⟩
end

/-! ### storing an entry into a row -/
def set4 (w : World) (g o : Nat) (x : Ent) : World :=
  (((w.setCell ⟨g, o, none⟩ (.string x.key)).setCell ⟨g, o + 1, none⟩ (.string x.val)).setCell ⟨g, o + 2, none⟩ (.int .i64 x.til)).setCell ⟨g, o + 3, none⟩ (.int .i64 x.gra)
theorem set4_only (w : World) (g o : Nat) (x : Ent) : Only (fun b => b = g) w (set4 w g o x) :=
  ((((Only.refl (fun b => b = g) w).setCell (p := ⟨g, o, none⟩) rfl _).setCell (p := ⟨g, o + 1, none⟩) rfl _).setCell (p := ⟨g, o + 2, none⟩) rfl _).setCell (p := ⟨g, o + 3, none⟩) rfl _
theorem set4_size (w : World) (g o : Nat) (x : Ent) : (set4 w g o x).heap.size = w.heap.size := by simp [set4, World.setCell]
theorem set4_frozen (w : World) (g o : Nat) (x : Ent) (a : Addr) : (set4 w g o x).frozen? a = w.frozen? a := by simp only [set4, World.frozen?_setCell]
theorem set4_out (w : World) (g o : Nat) (x : Ent) (i : Nat) (h : i < o ∨ o + 4 ≤ i) : (set4 w g o x).cell? ⟨g, i, none⟩ = w.cell? ⟨g, i, none⟩ := by
  unfold set4
  rw [World.cell?_setCell_other _ _ _ _ (off_ne (by omega)), World.cell?_setCell_other _ _ _ _ (off_ne (by omega)), World.cell?_setCell_other _ _ _ _ (off_ne (by omega)), World.cell?_setCell_other _ _ _ _ (off_ne (by omega))]
theorem set4_in (w : World) (g o : Nat) (x : Ent) (h : ∀ i, i < 4 → (w.cell? ⟨g, o + i, none⟩).isSome = true) (i : Nat) (hi : i < 4) : (set4 w g o x).cell? ⟨g, o + i, none⟩ = x.cells[i]? := by
  obtain ⟨u0, h0⟩ := Option.isSome_iff_exists.1 (h 0 (by decide))
  obtain ⟨u1, h1⟩ := Option.isSome_iff_exists.1 (h 1 (by decide))
  obtain ⟨u2, h2⟩ := Option.isSome_iff_exists.1 (h 2 (by decide))
  obtain ⟨u3, h3⟩ := Option.isSome_iff_exists.1 (h 3 (by decide))
  unfold set4
  match i, hi with
  | 0, _ =>
    rw [World.cell?_setCell_other _ _ _ _ (off_ne (by omega)), World.cell?_setCell_other _ _ _ _ (off_ne (by omega)), World.cell?_setCell_other _ _ _ _ (off_ne (by omega))]
    exact World.cell?_setCell_same _ _ _ h0
  | 1, _ =>
    rw [World.cell?_setCell_other _ _ _ _ (off_ne (by omega)), World.cell?_setCell_other _ _ _ _ (off_ne (by omega))]
    refine World.cell?_setCell_same _ _ _ (u := u1) ?_
    rw [World.cell?_setCell_other _ _ _ _ (off_ne (by omega))]; exact h1
  | 2, _ =>
    rw [World.cell?_setCell_other _ _ _ _ (off_ne (by omega))]
    refine World.cell?_setCell_same _ _ _ (u := u2) ?_
    rw [World.cell?_setCell_other _ _ _ _ (off_ne (by omega)), World.cell?_setCell_other _ _ _ _ (off_ne (by omega))]; exact h2
  | 3, _ =>
    refine World.cell?_setCell_same _ _ _ (u := u3) ?_
    rw [World.cell?_setCell_other _ _ _ _ (off_ne (by omega)), World.cell?_setCell_other _ _ _ _ (off_ne (by omega)), World.cell?_setCell_other _ _ _ _ (off_ne (by omega))]; exact h3

theorem cells_at (l : List Ent) (i : Nat) : (cellsOf l)[i]? = (l[i / 4]?).bind fun e => e.cells[i % 4]? := by
  have hm : i % 4 < 4 := Nat.mod_lt _ (by decide)
  have hi : i / 4 * 4 + i % 4 = i := by omega
  rcases Nat.lt_or_ge (i / 4) l.length with h | h
  · have := cellsOf_at l (i / 4) (i % 4) h hm
    rw [hi] at this
    rw [this, List.getElem?_eq_getElem h]; rfl
  · rw [List.getElem?_eq_none h, List.getElem?_eq_none]
    · rfl
    · rw [cellsOf_length]; omega

theorem Vec.set4 {w : World} {g off n cap : Nat} {T : List Ent} (h : Vec w 4 (.slice (some ⟨g, off, none⟩) n cap) n (cellsOf T)) {j : Nat} (hj : j < T.length) (x : Ent) :
    Vec (set4 w g (off + j * 4) x) 4 (.slice (some ⟨g, off, none⟩) n cap) n (cellsOf (T.set j x)) := by
  have hn : T.length = n := by have := h.len; rw [cellsOf_length] at this; omega
  rcases h.form with ⟨h1, _⟩ | ⟨g', off', cap', he, h1, h2, h3, h4, h5⟩
  · cases h1
  · simp only [Value.slice.injEq, Option.some.injEq, Addr.mk.injEq, and_true, true_and] at he
    obtain ⟨⟨rfl, rfl⟩, rfl⟩ := he
    have hsome : ∀ i, i < 4 → (w.cell? ⟨g, off + j * 4 + i, none⟩).isSome = true := fun i hi => by
      rw [Nat.add_assoc]; exact (h5 (j * 4 + i) (by omega)).1
    refine ⟨by rw [cellsOf_length, List.length_set, hn], .inr ⟨g, off, cap, rfl, h1, h2, by rw [set4_size]; exact h3, fun i u hu => ?_, fun i hi => ?_⟩⟩
    · rw [cells_at] at hu
      by_cases hq : i / 4 = j
      · have hsj : (T.set j x)[i / 4]? = some x := by rw [hq]; exact List.getElem?_set_self hj
        rw [hsj] at hu
        have hm : i % 4 < 4 := Nat.mod_lt _ (by decide)
        have := set4_in w g (off + j * 4) x hsome (i % 4) hm
        have ei : off + j * 4 + i % 4 = off + i := by omega
        rw [ei] at this
        rw [this]; exact hu
      · rw [List.getElem?_set_ne (fun e => hq e.symm)] at hu
        rw [set4_out w g (off + j * 4) x (off + i) (by omega)]
        refine h4 i u ?_
        rw [cells_at]; exact hu
    · rw [set4_frozen]
      refine ⟨?_, (h5 i hi).2⟩
      by_cases hin : off + j * 4 ≤ off + i ∧ off + i < off + j * 4 + 4
      · have := set4_in w g (off + j * 4) x hsome (i - j * 4) (by omega)
        have ei : off + j * 4 + (i - j * 4) = off + i := by omega
        rw [ei] at this
        rw [this]
        have hlt : i - j * 4 < x.cells.length := by simp [Ent.cells]; omega
        rw [List.getElem?_eq_getElem hlt]; rfl
      · rw [set4_out w g (off + j * 4) x (off + i) (by omega)]
        exact (h5 i hi).1

theorem Nev.stored {w0 w : World} {B M g off cap n : Nat} {E Y : Int} {l : List Node} {L : List Ent} {vk : Value} {K : List ByteArray} {T : List Ent} (h : Nev w0 w B M E Y l L vk (.slice (some ⟨g, off, none⟩) n cap) K T) (hn : n = T.length) {j : Nat} (hj : j < T.length) (x : Ent) :
    Nev w0 (set4 w g (off + j * 4) x) B M E Y l L vk (.slice (some ⟨g, off, none⟩) n cap) K (T.set j x) := by
  subst hn
  have hO := set4_only w g (off + j * 4) x
  have hg : Value.ownBlock (.slice (some ⟨g, off, none⟩) T.length cap) = some g := rfl
  refine ⟨h.sh.kept hO fun b hb e => (h.dt g hg).1 (e ▸ hb), h.keys.only hO fun b hb e => h.ap b hb (e ▸ hg), ?_, h.dk, h.dt, h.ap, h.bel.trans (hO.below h.bel.size fun b e => e ▸ (h.dt g hg).2)⟩
  rw [List.length_set]
  exact h.last.set4 hj x
theorem Pin.stored {w : World} {B M g off cap n b : Nat} {l : List Node} {vk : Value} {o : Obj} (h : Pin w B M l vk (.slice (some ⟨g, off, none⟩) n cap) b o) (p : Nat) (x : Ent) : Pin (set4 w g p x) B M l vk (.slice (some ⟨g, off, none⟩) n cap) b o := by
  have hbg : ¬ b = g := fun e => h.nt (by rw [e]; rfl)
  exact ⟨by rw [set4_size]; exact h.lt, h.no, h.nk, h.nt, ((set4_only w g p x).block b h.lt hbg).trans h.is⟩

/-! ### where a key stands -/
def fnd (key : ByteArray) (K : List ByteArray) : Nat → Int
  | 0 => -1
  | j + 1 => if K[j]? = some key then (j : Int) else fnd key K j
theorem fnd_spec (key : ByteArray) (K : List ByteArray) : ∀ j, (fnd key K j = -1 ∧ ∀ i, i < j → ¬ K[i]? = some key) ∨ ∃ i : Nat, i < j ∧ fnd key K j = (i : Int) ∧ K[i]? = some key
  | 0 => .inl ⟨rfl, fun i h => absurd h (by omega)⟩
  | j + 1 => by
    by_cases h : K[j]? = some key
    · exact .inr ⟨j, by omega, by show (if _ then _ else _) = _; rw [if_pos h], h⟩
    · rcases fnd_spec key K j with ⟨h1, h2⟩ | ⟨i, h1, h2, h3⟩
      · refine .inl ⟨by show (if _ then _ else _) = _; rw [if_neg h]; exact h1, fun i hi => ?_⟩
        rcases Nat.lt_or_ge i j with h4 | h4
        · exact h2 i h4
        · have : i = j := by omega
          subst this; exact h
      · exact .inr ⟨i, by omega, by show (if _ then _ else _) = _; rw [if_neg h]; exact h2, h3⟩

end Go.Proofs.Ythmdaekkpihlnaa
