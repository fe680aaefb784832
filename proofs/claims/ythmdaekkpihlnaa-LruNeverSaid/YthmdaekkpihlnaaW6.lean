/- works: the walk. -/
import Derived.Test.YthmdaekkpihlnaaW5
namespace Go.Proofs.Ythmdaekkpihlnaa
open Go.RowKit Go.Maps
set_option linter.unusedVariables false

theorem Shelf.ge {m : Nat} {w : World} {B M : Nat} {E Y : Int} {l : List Node} (S : Shelf m w B M E Y l) {k : Nat} (h : Own B M l k) : m ≤ k := by
  rcases h with rfl | rfl | h
  · exact S.row.mB
  · exact S.row.mM
  · exact (S.row.mine k h).1

theorem Kept.stay {F F' : Nat → Prop} {w w' : World} (h : Kept F F' w w') {b : Nat} (hb : b < w.heap.size) (hn : ¬ F b) : b < w'.heap.size ∧ ¬ F' b ∧ w'.heap[b]? = w.heap[b]? :=
  ⟨Nat.lt_of_lt_of_le hb h.only.size, fun hF => by rcases h.fresh b hF with h1 | h1; exact hn h1; omega, h.only.block b hb hn⟩

/-- a shelf that stands as a list of entries -/
structure Sh (m : Nat) (w : World) (B M : Nat) (E Y : Int) (l : List Node) (L : List Ent) : Prop where
  shelf : Shelf m w B M E Y l
  is : es l = L
  le : m ≤ w.heap.size

theorem Sh.kept {m : Nat} {w w' : World} {B M : Nat} {E Y : Int} {l : List Node} {L : List Ent} (S : Sh m w B M E Y l L) {T : Nat → Prop} (h : Only T w w') (hT : ∀ k, Own B M l k → ¬ T k) : Sh m w' B M E Y l L :=
  ⟨S.shelf.only h hT, S.is, Nat.le_trans S.le h.size⟩
theorem Sh.new {m : Nat} {w w' : World} {B M : Nat} {E Y : Int} {l : List Node} {L : List Ent} (S : Sh m w B M E Y l L) (h : Only None' w w') : Sh m w' B M E Y l L := S.kept h fun _ _ h => h

theorem Sh.put {m : Nat} {w : World} {B M : Nat} {E Y : Int} {l : List Node} {L : List Ent} (S : Sh m w B M E Y l L) (e : Ent) (L' : List Ent) (n : Int) (hk : e.key.size ≤ 140737488355328) (hv : e.val.size ≤ 140737488355328) (hE0 : 0 ≤ E) (hY0 : 0 ≤ Y) (hl : L.length < 1000)
    (hn : (if pfits E Y e then 0 else 40) = n) (hL : pput E Y L e = L') :
    Calls Try.prog 10 #[.pointer (some ⟨B, 0, none⟩), .agg #[.string e.key, .string e.val, .int .i64 e.til, .int .i64 e.gra]] w fun r w' =>
      r = .returned (.int .i64 n) ∧ ∃ l', Sh m w' B M E Y l' L' ∧ Kept (Own B M l) (Own B M l') w w' := by
  refine (put_any S.shelf S.le e hk hv hE0 hY0 (by rw [← es_length, S.is]; exact hl)).mono ?_
  rintro r w' ⟨rfl, l', h1, h2, h3⟩
  exact ⟨by rw [hn], l', ⟨h1, by rw [h2, S.is, hL], Nat.le_trans S.le h3.only.size⟩, h3⟩

theorem Sh.get {m : Nat} {w : World} {B M : Nat} {E Y : Int} {l : List Node} {L : List Ent} (S : Sh m w B M E Y l L) (k : ByteArray) (now : Int) (L' : List Ent) (g : Ent) (gv : Value) (b : Bool) (hk : k.size ≤ 140737488355328)
    (hg : (pget L k now).getD zent = g) (hgv : Value.agg #[.string g.key, .string g.val, .int .i64 g.til, .int .i64 g.gra] = gv) (hb : (pget L k now).isSome = b) (hL : pgot L k now = L') :
    Calls Try.prog 12 #[.pointer (some ⟨B, 0, none⟩), .string k, .int .i64 now] w fun r w' =>
      r = .returned (.tuple #[gv, .bool b]) ∧
      ∃ l', Sh m w' B M E Y l' L' ∧ Kept (Own B M l) (Own B M l') w w' := by
  refine (get_any S.shelf k now hk).mono ?_
  rintro r w' ⟨g', b', hg', hb', rfl, l', h1, h2, h3⟩
  rw [S.is] at hg' hb' h2
  rw [hg] at hg'
  rw [hb] at hb'
  subst hg' hb' hgv
  exact ⟨rfl, l', ⟨h1, by rw [h2, hL], Nat.le_trans S.le h3.only.size⟩, h3⟩

theorem Sh.len {m : Nat} {w : World} {B M : Nat} {E Y : Int} {l : List Node} {L : List Ent} (S : Sh m w B M E Y l L) (n : Int) (hn : (L.length : Int) = n) :
    Calls Try.prog 14 #[.pointer (some ⟨B, 0, none⟩)] w fun r w' => r = .returned (.int .i64 n) ∧ w = w' := by
  refine (len_any S.shelf).mono ?_
  rintro r w' ⟨rfl, rfl⟩
  rw [← hn, ← S.is, es_length]
  exact ⟨rfl, rfl⟩

theorem Sh.bytes {m : Nat} {w : World} {B M : Nat} {E Y : Int} {l : List Node} {L : List Ent} (S : Sh m w B M E Y l L) (n : Int) (hn : (pbytes L : Int) = n) :
    Calls Try.prog 15 #[.pointer (some ⟨B, 0, none⟩)] w fun r w' => r = .returned (.int .i64 n) ∧ w = w' := by
  refine (bytes_any S.shelf).mono ?_
  rintro r w' ⟨rfl, rfl⟩
  rw [← hn, ← S.is, es_bytes]
  exact ⟨rfl, rfl⟩

theorem Sh.all {m : Nat} {w : World} {B M : Nat} {E Y : Int} {l : List Node} {L : List Ent} (S : Sh m w B M E Y l L) :
    Calls Try.prog 13 #[.pointer (some ⟨B, 0, none⟩)] w fun e w' => ∃ v, e = .returned v ∧ w'.ownsRow (w.heap.size + 1) 35 4 v L.length (cellsOf L) ∧ Only None' w w' := by
  refine (all_any S.shelf).mono ?_
  rintro r w' ⟨v, rfl, h1, h2⟩
  refine ⟨v, rfl, ?_, h2⟩
  rw [ents_es, S.is, ← es_length, S.is] at h1
  exact h1

theorem Sh.out {m : Nat} {w : World} {B M : Nat} {E Y : Int} {l : List Node} {L : List Ent} (S : Sh m w B M E Y l L) {k : Nat} (hk : w.heap.size ≤ k) : ¬ Own B M l k := fun h => absurd (S.shelf.ltOwn h) (by omega)

theorem Sh.fresh {m : Nat} {w wa wb : World} {B M : Nat} {E Y : Int} {l : List Node} {L : List Ent} {F : Nat → Prop} (S : Sh m wa B M E Y l L) (h : Only None' w wa) (hm : w.heap.size ≤ m) (k : Kept (Own B M l) F wa wb) : Only None' w wb :=
  h.trans2 k.only fun k hk hO => absurd (S.shelf.ge hO) (by omega)

theorem new_sh (a b : Int) (w : World) (ha : 0 ≤ a) (hb : 0 ≤ b) (ha' : a ≤ 2147483647) (hb' : b ≤ 2147483647) :
    Calls Try.prog 9 #[.int .i64 a, .int .i64 b] w fun r w' => ∃ B M, r = .returned (.tuple #[.pointer (some ⟨B, 0, none⟩), .int .i64 0]) ∧ Sh w.heap.size w' B M a b [] [] ∧ Only None' w w' := by
  refine (new_any a b w ha hb ha' hb').mono ?_
  rintro r w' ⟨B, M, rfl, h1, h2⟩
  exact ⟨B, M, rfl, ⟨h1, rfl, h2.size⟩, h2⟩

def kA : ByteArray := ⟨#[97]⟩
def kB : ByteArray := ⟨#[98]⟩
def kC : ByteArray := ⟨#[99]⟩
def v1 : ByteArray := ⟨#[49]⟩
def nul : ByteArray := ⟨#[]⟩
def eA : Ent := ⟨kA, v1, 9, 0⟩
def eB : Ent := ⟨kB, nul, 9, 0⟩
def eC : Ent := ⟨kC, nul, 5, 0⟩

theorem put1 : pput 2 100 [] eA = [eA] := rfl
theorem put2 : pput 2 100 [eA] eB = [eA, eB] := rfl
theorem get1 : pgot [eA, eB] kA 8 = [eB, eA] := rfl
theorem put3 : pput 2 100 [eB, eA] eC = [eA, eC] := rfl
theorem get2 : pgot [eA, eC] kC 5 = [eA] := rfl
theorem fA : (if pfits 2 100 eA then (0 : Int) else 40) = 0 := rfl
theorem fB : (if pfits 2 100 eB then (0 : Int) else 40) = 0 := rfl
theorem fC' : (if pfits 2 100 eC then (0 : Int) else 40) = 0 := rfl

set_option maxRecDepth 100000 in
theorem works_any (w : World) : Calls Try.prog 7 #[] w fun r w' => r = .returned (.bool true) ∧ Only None' w w' := by
  go_enter Try.func7, Try.ntmps7
  go_wp2_with fail
  refine (new_sh 2 100 w (by decide) (by decide) (by decide) (by decide)).mono ?_
  rintro r w1 ⟨B, M, rfl, h1, h2⟩
  have S1 := Lib.hid h1
  have N1 := Lib.hid h2
  clear h1 h2
  go_wp2_with fail
  refine (S1.out.put eA [eA] 0 (by decide) (by decide) (by decide) (by decide) (by decide) fA put1).mono ?_
  rintro r w2 ⟨rfl, l2, h1, h2⟩
  have S2 := Lib.hid h1
  have K2 := Lib.hid h2
  clear h1 h2
  go_wp2_with fail
  refine (S2.out.put eB [eA, eB] 0 (by decide) (by decide) (by decide) (by decide) (by decide) fB put2).mono ?_
  rintro r w3 ⟨rfl, l3, h1, h2⟩
  have S3 := Lib.hid h1
  have K3 := Lib.hid h2
  clear h1 h2
  go_wp2_with fail
  refine (S3.out.get kA 8 [eB, eA] eA (.agg #[.string ⟨#[97]⟩, .string ⟨#[49]⟩, .int .i64 9, .int .i64 0]) true (by decide) rfl rfl rfl get1).mono ?_
  rintro r w4 ⟨rfl, l4, h1, h2⟩
  have S4 := Lib.hid (h1.new ((Only.refl _ _).alloc (.cells #[.string ⟨#[97]⟩, .string ⟨#[49]⟩, .int .i64 9, .int .i64 0] 35)))
  have K4 := Lib.hid h2
  have X4 := Lib.hid (h1.out (k := w4.heap.size) (Nat.le_refl _))
  clear h1 h2
  go_wp2_with fail
  refine (S4.out.put eC [eA, eC] 0 (by decide) (by decide) (by decide) (by decide) (by decide) fC' put3).mono ?_
  rintro r w5 ⟨rfl, l5, h1, h2⟩
  have S5 := Lib.hid h1
  have K5 := Lib.hid h2
  have X5 := Lib.hid (h2.stay (b := w4.heap.size) (by simp) X4.out)
  clear h1 h2
  go_wp2_with fail
  refine S5.out.all.mono ?_
  rintro r w6 ⟨v, rfl, h1, h2⟩
  obtain ⟨g, cap, rfl, hg0, hg1⟩ := h1.form (by decide)
  have S6 := Lib.hid (S5.out.new h2)
  have N6 := Lib.hid h2
  have X6 := Lib.hid (h2.block w4.heap.size X5.out.1 (fun h => h))
  have XL := Lib.hid (Nat.lt_of_lt_of_le X5.out.1 h2.size)
  have G6 := Lib.hid h1
  have GO := Lib.hid (S5.out.out (k := g) (by omega))
  have GL := Lib.hid hg1
  clear h1 h2 hg0 hg1
  go_wp2_with fail
  refine (S6.out.get kC 5 [eA] zent (.agg #[.string ⟨#[]⟩, .string ⟨#[]⟩, .int .i64 0, .int .i64 0]) false (by decide) rfl rfl rfl get2).mono ?_
  rintro r w7 ⟨rfl, l7, h1, h2⟩
  have S7 := Lib.hid (h1.new ((Only.refl _ _).alloc (.cells #[.string ⟨#[]⟩, .string ⟨#[]⟩, .int .i64 0, .int .i64 0] 35)))
  have hX := h2.stay XL.out X5.out.2.1
  have hG := h2.stay GL.out GO.out
  have cX (i : Nat) : w7.cell? ⟨w4.heap.size, i, none⟩ = #[Value.string ⟨#[97]⟩, .string ⟨#[49]⟩, .int .i64 9, .int .i64 0][i]? := by
    rw [World.cell?_of_block (w := w6) (a := ⟨w4.heap.size, i, none⟩) hX.2.2, World.cell?_of_block (w := w5) (a := ⟨w4.heap.size, i, none⟩) X6.out, World.cell?_of_block (a := ⟨w4.heap.size, i, none⟩) X5.out.2.2]
    exact World.cell?_alloc_new _ _ _ _
  have x0 := cX 0
  have x1 := cX 1
  have x2 := cX 2
  have x3 := cX 3
  have g0 : w7.cell? ⟨g, 0, none⟩ = some (.string ⟨#[97]⟩) := by
    rw [World.cell?_of_block (w := w6) (a := ⟨g, 0, none⟩) hG.2.2]; exact G6.out.cellAt 0 (by decide)
  have g4 : w7.cell? ⟨g, 4, none⟩ = some (.string ⟨#[99]⟩) := by
    rw [World.cell?_of_block (w := w6) (a := ⟨g, 4, none⟩) hG.2.2]; exact G6.out.cellAt 4 (by decide)
  have lX : w4.heap.size < w7.heap.size := hX.1
  have lG : g < w7.heap.size := hG.1
  have K7 := Lib.hid h2
  clear h1 h2 hX hG cX
  go_wp2_with (first | (go_at_call 14; refine (S7.out.len 1 rfl).mono ?_; rintro r w' ⟨rfl, rfl⟩) | (go_at_call 15; refine (S7.out.bytes 2 rfl).mono ?_; rintro r w' ⟨rfl, rfl⟩))
  go_ret
  refine ⟨rfl, ?_⟩
  have O2 := S1.out.fresh N1.out (Nat.le_refl _) K2.out
  have O3 := S2.out.fresh O2 (Nat.le_refl _) K3.out
  have O4 := S3.out.fresh O3 (Nat.le_refl _) K4.out
  have O5 := S4.out.fresh (O4.alloc _) (Nat.le_refl _) K5.out
  have O6 := O5.trans N6.out
  exact (S6.out.fresh O6 (Nat.le_refl _) K7.out).alloc _

end Go.Proofs.Ythmdaekkpihlnaa
