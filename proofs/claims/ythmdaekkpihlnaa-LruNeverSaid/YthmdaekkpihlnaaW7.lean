/- LruNames: the walk. -/
import Derived.Test.YthmdaekkpihlnaaW6
namespace Go.Proofs.Ythmdaekkpihlnaa
open Go.RowKit Go.Maps
set_option linter.unusedVariables false

theorem Sh.beside {m' : Nat} {w w' : World} {B M B' M' : Nat} {E' Y' : Int} {l l' lz : List Node} {L : List Ent} (Z : Sh m' w B' M' E' Y' lz L) (K : Kept (Own B M l) (Own B M l') w w') (d : ∀ k, Own B' M' lz k → ¬ Own B M l k) :
    Sh m' w' B' M' E' Y' lz L ∧ ∀ k, Own B' M' lz k → ¬ Own B M l' k :=
  ⟨Z.kept K.only d, fun k hk h => by
    rcases K.fresh k h with h1 | h1
    · exact d k hk h1
    · have := Z.shelf.ltOwn hk; omega⟩

def e1 : Ent := ⟨kA, ⟨#[98, 99, 100]⟩, 9, 0⟩
def e2 : Ent := ⟨kB, ⟨#[49, 50]⟩, 9, 0⟩
def e3 : Ent := ⟨kB, ⟨#[49, 50, 51, 52, 53]⟩, 9, 0⟩
def e4 : Ent := ⟨kA, nul, 9, 0⟩

set_option maxRecDepth 100000 in
theorem names_any (w : World) : Calls Try.prog 4 #[] w fun r w' => r = .returned (.bool true) ∧ Only None' w w' := by
  go_enter Try.func4, Try.ntmps4
  go_wp2_with fail
  refine (works_any _).mono ?_
  rintro r w1 ⟨rfl, h1⟩
  have O1 := Lib.hid h1
  clear h1
  go_wp2_with fail
  refine (new_bad (-1) 0 _ (by decide)).mono ?_
  rintro r w' ⟨rfl, rfl⟩
  go_wp2_with fail
  refine (new_bad 0 (-1) _ (by decide)).mono ?_
  rintro r w' ⟨rfl, rfl⟩
  go_wp2_with fail
  refine (new_bad 2147483648 0 _ (by decide)).mono ?_
  rintro r w' ⟨rfl, rfl⟩
  go_wp2_with fail
  refine (new_sh 9 4 _ (by decide) (by decide) (by decide) (by decide)).mono ?_
  rintro r w2 ⟨B, M, rfl, h1, h2⟩
  have S2 := Lib.hid h1
  have N2 := Lib.hid h2
  clear h1 h2
  go_wp2_with fail
  refine (new_sh 0 9 _ (by decide) (by decide) (by decide) (by decide)).mono ?_
  rintro r w3 ⟨B', M', rfl, h1, h2⟩
  have S3 := Lib.hid (S2.out.new h2)
  have Z3 := Lib.hid h1
  have D3 := Lib.hid (fun k hk hk' => absurd (S2.out.shelf.ltOwn hk') (by have := h1.shelf.ge hk; omega) : ∀ k, Own B' M' [] k → ¬ Own B M [] k)
  have N3 := Lib.hid h2
  clear h1 h2
  go_wp2_with fail
  refine (S3.out.put e1 [e1] 0 (by decide) (by decide) (by decide) (by decide) (by decide) rfl rfl).mono ?_
  rintro r w4 ⟨rfl, l4, h1, h2⟩
  have S4 := Lib.hid h1
  have Z4 := Lib.hid (Z3.out.beside h2 D3.out)
  have K4 := Lib.hid h2
  clear h1 h2
  go_wp2_with fail
  refine (S4.out.put e2 [e2] 0 (by decide) (by decide) (by decide) (by decide) (by decide) rfl rfl).mono ?_
  rintro r w5 ⟨rfl, l5, h1, h2⟩
  have S5 := Lib.hid h1
  have Z5 := Lib.hid (Z4.out.1.beside h2 Z4.out.2)
  have K5 := Lib.hid h2
  clear h1 h2
  go_wp2_with (first | (go_at_call 14; refine (S5.out.len 1 rfl).mono ?_; rintro r w' ⟨rfl, rfl⟩) | (go_at_call 15; refine (S5.out.bytes 3 rfl).mono ?_; rintro r w' ⟨rfl, rfl⟩))
  refine (S5.out.put e3 [] 40 (by decide) (by decide) (by decide) (by decide) (by decide) rfl rfl).mono ?_
  rintro r w6 ⟨rfl, l6, h1, h2⟩
  have S6 := Lib.hid h1
  have Z6 := Lib.hid (Z5.out.1.beside h2 Z5.out.2)
  have K6 := Lib.hid h2
  clear h1 h2
  go_wp2_with (go_at_call 14; refine (S6.out.len 0 rfl).mono ?_; rintro r w' ⟨rfl, rfl⟩)
  refine (Z6.out.1.put e4 [] 40 (by decide) (by decide) (by decide) (by decide) (by decide) rfl rfl).mono ?_
  rintro r w7 ⟨rfl, l7, h1, h2⟩
  have K7 := Lib.hid h2
  clear h1 h2
  go_wp2_with fail
  refine (get_nil _ _ _).mono ?_
  rintro r w8 ⟨rfl, h1⟩
  have O8 := Lib.hid h1
  clear h1
  go_wp2_with fail
  refine (put_nil zent _).mono ?_
  rintro r w9 ⟨rfl, h1⟩
  have O9 := Lib.hid h1
  clear h1
  go_wp2_with fail
  refine (drop_nil _ _).mono ?_
  rintro r w' ⟨rfl, rfl⟩
  go_wp2_with fail
  refine (sweep_nil _ _).mono ?_
  rintro r w10 ⟨rfl, h1⟩
  have O10 := Lib.hid h1
  clear h1
  go_wp2_with (first | (go_at_call 14; refine (len_nil' _).mono ?_; rintro r w' ⟨rfl, rfl⟩) | (go_at_call 15; refine (bytes_nil _).mono ?_; rintro r w' ⟨rfl, rfl⟩))
  refine (all_nil _).mono ?_
  rintro r w11 ⟨rfl, h1⟩
  have O11 := Lib.hid h1
  clear h1
  go_wp2
  go_ret
  refine ⟨rfl, ?_⟩
  have q1 := O1.out.size
  have q2 : w.heap.size ≤ w2.heap.size := Nat.le_trans q1 N2.out.size
  have P3 := (O1.out.trans N2.out).trans N3.out
  have P4 := S3.out.fresh P3 q1 K4.out
  have P5 := S4.out.fresh P4 q1 K5.out
  have P6 := S5.out.fresh P5 q1 K6.out
  have P7 := Z6.out.1.fresh P6 q2 K7.out
  exact ((((P7.trans O8.out).alloc _).trans O9.out).trans O10.out).trans O11.out

theorem names_below (w : World) : Calls Try.prog 4 #[] w fun r w' => r = .returned (.bool true) ∧ Below w.heap.size w w' :=
  (names_any w).mono fun _ _ ⟨h1, h2⟩ => ⟨h1, h2.below (Nat.le_refl _) fun _ h => h.elim⟩

end Go.Proofs.Ythmdaekkpihlnaa
