/- An argument that is a slice of ints. No program. -/
import Derived.Test.YtfmpidacklhmaaaK1
namespace Go.Proofs.Ytfmpidacklhmaaa
open Go.RowKit Go.WideShapes Go.ChangeShapes
set_option linter.unusedVariables false

theorem rd_ints {H : Type} {P : Program} {enc : TypeId × Value → H} {W : World} {spare : Nat → Bool} {held : Bool} {t e : TypeId} {fuel : Nat} {v : Value} {x : DataW H × List MemPlace}
    (ht : P.underlying t = some (.slice e)) (he : P.underlying e = some (.int .i64)) (hc : P.cellsOf e = 1) (h : DataW.trod enc P W 0 spare held fuel t [v] = some x) (hw : ∀ n ∈ x.1.weights P t, n ≤ reachBytes) :
    ∃ l : List Int, Rd W 1 v l.length (l.map (Value.int .i64)) ∧ l.length * P.bytesOf e ≤ reachBytes := by
  rcases Go.Deep.open_slice1 ht hc h with ⟨hv, _⟩ | ⟨a, len, cap, m, n, V, D, Pl, hv, _, hl, hm, hmm, hxe, hx⟩
  · simp at hv
    exact ⟨[], ⟨by simp, .inl ⟨hv, rfl⟩⟩, by simp⟩
  · simp at hv
    have hlm : len ≤ m := by rw [hmm]; split <;> omega
    have hww : (len + (m - len)) * P.bytesOf e ≤ reachBytes := by
      rw [hxe] at hw
      refine hw _ ?_
      simp [DataW.weights, ht]
    have key : ∀ j, j < len → ∃ b : Int, W.cell? (a.add j) = some (.int .i64 b) := by
      intro j hj
      obtain ⟨h1, h2⟩ := hx j (by omega)
      obtain ⟨b, q, _⟩ := DataW.trod_int he h2
      simp at q
      exact ⟨b, by rw [h1, q]⟩
    obtain ⟨l, hll, hp⟩ := list_of _ len key
    refine ⟨l, ⟨by simp, .inr ⟨a, cap, by rw [hv, hll], by omega, hm, fun j u hu => ?_⟩⟩, Nat.le_trans (Nat.mul_le_mul_right _ (by omega)) hww⟩
    rw [List.getElem?_map] at hu
    cases hj : l[j]? with
    | none => rw [hj] at hu; cases hu
    | some b =>
      rw [hj] at hu
      injection hu with hu
      obtain ⟨h1, rfl⟩ := List.getElem?_eq_some_iff.1 hj
      rw [← hu]; exact hp j h1

theorem open_ints {H : Type} {P : Program} {enc : TypeId × Value → H} {W : World} {base : Nat} {t e : TypeId} {v : Value} {d : DataW H} {ps : List MemPlace}
    (ht : P.underlying t = some (.slice e)) (he : P.underlying e = some (.int .i64)) (hc : P.cellsOf e = 1) (hok : Value.okWide P W .any base t v) (hd : DataW.Trod enc P W 0 (fun _ => true) true t v d ps) (hw : ∀ n ∈ d.weights P t, n ≤ reachBytes) :
    ∃ l : List Int, Rd W 1 v l.length (l.map (Value.int .i64)) ∧ l.length * P.bytesOf e ≤ reachBytes := by
  obtain ⟨fuel, hm⟩ := hd
  obtain ⟨a, len, cap, rfl⟩ := okWide_slice' ht hok
  exact rd_ints ht he hc (x := (d, ps)) (by simpa [Value.cells] using hm) hw
end Go.Proofs.Ytfmpidacklhmaaa
