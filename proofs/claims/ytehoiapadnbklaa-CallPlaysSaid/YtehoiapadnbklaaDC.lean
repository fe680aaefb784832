/- CallPlays: the arguments; the walk, joined. -/
import Derived.Test.YtehoiapadnbklaaDB
namespace Go.Proofs.Ytehoiapadnbklaa
open Go.RowKit Go.Maps Go.WideShapes
set_option linter.unusedVariables false

theorem open_stepsW {H : Type} {enc : TypeId × Value → H} {W : World} {base : Nat} {v : Value} {d : DataW H} {ps : List MemPlace}
    (hok : Value.okWide Try.prog W .any base 22 v) (hd : DataW.Trod enc Try.prog W 0 (fun _ => true) true 22 v d ps) (hw : ∀ n ∈ d.weights Try.prog 22, n ≤ reachBytes) :
    ∃ a len cap ss, v = .slice a len cap ∧ Steps W a len ss ∧ ∀ s ∈ ss, (Lit.int .i64 s.n).wf = true := by
  obtain ⟨a, len, cap, rfl, hle, _, hb, hc, hm, hat⟩ := open_flatS under22 under32 hone32 cells32 hok hd hw
  rw [bytes32, reach_eq] at hle
  have key : ∀ j, j < len → ∃ s : Stp, (Lit.int .i64 s.n).wf = true ∧ ∃ b off, a = some ⟨b, off, none⟩ ∧ b < W.heap.size ∧ At7 W b (off + j * 7) s := by
    intro j hj
    obtain ⟨b, off, rfl, hf⟩ := hat j hj
    rw [size32] at hf
    obtain ⟨g0, e0, t0⟩ := f32at 0 5 (by rw [f32]; rfl)
    obtain ⟨g1, e1, t1⟩ := f32at 1 9 (by rw [f32]; rfl)
    obtain ⟨g2, e2, t2⟩ := f32at 2 3 (by rw [f32]; rfl)
    obtain ⟨g3, e3, t3⟩ := f32at 3 3 (by rw [f32]; rfl)
    obtain ⟨g4, e4, t4⟩ := f32at 4 3 (by rw [f32]; rfl)
    obtain ⟨g5, e5, t5⟩ := f32at 5 3 (by rw [f32]; rfl)
    obtain ⟨g6, e6, t6⟩ := f32at 6 4 (by rw [f32]; rfl)
    obtain ⟨u0, c0, s0⟩ := hf 0 g0 e0
    obtain ⟨u1, c1, s1⟩ := hf 1 g1 e1
    obtain ⟨u2, c2, s2⟩ := hf 2 g2 e2
    obtain ⟨u3, c3, s3⟩ := hf 3 g3 e3
    obtain ⟨u4, c4, s4⟩ := hf 4 g4 e4
    obtain ⟨u5, c5, s5⟩ := hf 5 g5 e5
    obtain ⟨u6, c6, s6⟩ := hf 6 g6 e6
    rw [t0] at s0; rw [t1] at s1; rw [t2] at s2; rw [t3] at s3; rw [t4] at s4; rw [t5] at s5; rw [t6] at s6
    obtain ⟨n0, rfl, w0⟩ := s0.int _ Try.underlying5
    obtain ⟨n1, rfl, _⟩ := s1.string Try.underlying9
    obtain ⟨n2, rfl, _⟩ := s2.int _ Try.underlying3
    obtain ⟨n3, rfl, _⟩ := s3.int _ Try.underlying3
    obtain ⟨n4, rfl, _⟩ := s4.int _ Try.underlying3
    obtain ⟨n5, rfl, w5⟩ := s5.int _ Try.underlying3
    obtain ⟨n6, rfl⟩ := s6.bool Try.underlying4
    obtain ⟨k0, rfl⟩ := u8_nat w0
    exact ⟨⟨k0, n1, n2, n3, n4, n5, n6⟩, w5, b, off, rfl, (hb _ rfl).2, ⟨c0, c1, c2, c3, c4, c5, c6⟩⟩
  obtain ⟨ss, hl, hp⟩ := list_of _ len key
  exact ⟨a, len, cap, ss, rfl, ⟨hl, hle, fun j hj => (hp j hj).2⟩, fun s hs => by
    obtain ⟨j, hj, rfl⟩ := List.getElem_of_mem hs
    exact (hp j hj).1⟩
theorem plays_walk (x : Int) (a : Option Addr) (n c : Nat) (ss : List Stp) (w : World) (rd : Steps w a n ss ∧ ∀ s ∈ ss, (Lit.int .i64 s.n).wf = true) : Calls Try.prog 4 #[.int .i64 x, .slice a n c] w fun e w' => e = .returned (.bool true) ∧ Below w.heap.size w w' := by
  by_cases hx : x < 1 ∨ 2047 < x
  · exact plays_bad x hx a n c w
  · obtain ⟨lf, rfl⟩ : ∃ lf : Nat, x = (lf : Int) := ⟨x.toNat, by omega⟩
    exact plays_main lf (by omega) (by omega) a n c ss w rd.1 rd.2
end Go.Proofs.Ytehoiapadnbklaa
