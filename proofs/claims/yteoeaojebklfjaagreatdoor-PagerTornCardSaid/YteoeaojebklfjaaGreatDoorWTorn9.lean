/- Y4 in one text. -/
import Derived.Test.YteoeaojebklfjaaGreatDoorWTorn8
namespace Go.Proofs.YteoeaojebklfjaaGreatDoor
open Go.RowKit Go.Maps Go.WideShapes Go.ChangeShapes
set_option linter.unusedVariables false
theorem rd_u8s {H : Type} {P : Program} {enc : TypeId × Value → H} {W : World} {spare : Nat → Bool} {held : Bool} {t e : TypeId} {fuel : Nat} {v : Value} {x : DataW H × List MemPlace}
    (ht : P.underlying t = some (.slice e)) (he : P.underlying e = some (.int .u8)) (hc : P.cellsOf e = 1) (h : DataW.trod enc P W 0 spare held fuel t [v] = some x) :
    ∃ l : List UInt8, Rd W 1 v l.length (bv l) := by
  rcases Go.Deep.open_slice1 ht hc h with ⟨hv, _⟩ | ⟨a, len, cap, m, n, V, D, Pl, hv, _, hl, hm, hmm, hxe, hx⟩
  · simp at hv
    exact ⟨[], ⟨by simp [bv], .inl ⟨hv, rfl⟩⟩⟩
  · simp at hv
    have hlm : len ≤ m := by rw [hmm]; split <;> omega
    have key : ∀ j, j < len → ∃ b : UInt8, W.cell? (a.add j) = some (.int .u8 (b.toNat : Int)) := by
      intro j hj
      obtain ⟨h1, h2⟩ := hx j (by omega)
      obtain ⟨b, q, hw⟩ := DataW.trod_int he h2
      simp at q
      obtain ⟨c, hcq⟩ := u8_of hw.2
      exact ⟨c, by rw [h1, q, hcq]⟩
    obtain ⟨l, hll, hp⟩ := list_of _ len key
    refine ⟨l, ⟨by simp [bv], .inr ⟨a, cap, by rw [hv, hll], by omega, hm, fun j u hu => ?_⟩⟩⟩
    unfold bv at hu
    rw [List.getElem?_map] at hu
    cases hj : l[j]? with
    | none => rw [hj] at hu; cases hu
    | some b =>
      rw [hj] at hu
      injection hu with hu
      obtain ⟨h1, rfl⟩ := List.getElem?_eq_some_iff.1 hj
      rw [← hu]; exact hp j h1
theorem cells5u : Tryz.prog.cellsOf 5 = 1 := by kernel_rfl
set_option maxRecDepth 20000 in
theorem open_u8s {H : Type} {enc : TypeId × Value → H} {W : World} {base : Nat} {v : Value} {d : DataW H} {ps : List MemPlace}
    (hok : Value.okWide Tryz.prog W .any base 35 v) (hd : DataW.Trod enc Tryz.prog W 0 (fun _ => true) true 35 v d ps) (hw : ∀ n ∈ d.weights Tryz.prog 35, n ≤ reachBytes) :
    ∃ l : List UInt8, Rd W 1 v l.length (bv l) := by
  obtain ⟨fuel, hm⟩ := hd
  obtain ⟨a, len, cap, rfl⟩ := okWide_slice' Tryz.underlying35 hok
  exact rd_u8s Tryz.underlying35 Tryz.underlying5 cells5u (x := (d, ps)) (by simpa [Value.cells] using hm)
theorem okWide_bool' {P : Program} {W : World} {base : Nat} {t : TypeId} {v : Value} (ht : P.underlying t = some .bool) (h : Value.okWide P W .any base t v) : ∃ a, v = .bool a := by
  simp only [Value.okWide, ht, Cell.okWide] at h
  cases v <;> simp only [Cell.ok, ht] at h
  exact ⟨_, rfl⟩
end Go.Proofs.YteoeaojebklfjaaGreatDoor
