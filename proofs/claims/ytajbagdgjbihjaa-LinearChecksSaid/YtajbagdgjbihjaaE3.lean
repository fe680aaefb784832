/- Keys (20): the map of the keys that were called. -/
import Derived.Test.YtajbagdgjbihjaaE2
import Derived.Test.YtajbagdgjbihjaaC1
namespace Go.Proofs.Ytajbagdgjbihjaa
open Go.RowKit Go.Maps Go.Sort
set_option linter.unusedVariables false

theorem keys_perm_of {H : Type} {R : Value → Option (DataW H × List MemPlace)} {w : World} {b n : Nat} {D : DataW H} {l : List Str} (hown : w.ownsMap Try.prog 9 R b n D) (hh : ∀ x, Maps.has D (.string x) = true ↔ x ∈ l) : (insAll l).Perm (strKeys D) := by
  obtain ⟨es, hD, hpw, _⟩ := hown.entries keyed9
  obtain ⟨es', hD', hko⟩ := hown.keysOf
  obtain rfl : es = es' := by rw [hD] at hD'; simpa using hD'
  subst hD
  exact perm_strKeys hpw (fun p hp => by obtain ⟨v, hv⟩ := hko p hp; obtain ⟨x, _, hx, _⟩ := Maps.keyOf_str under9 hv; exact ⟨x, hx⟩) (insAll_nodup l) fun x => by rw [insAll_mem]; exact (hh x).symm
/-- at a round's head -/
structure KSt (w wr : World) (b nn : Nat) (l : List Ev) (j : Nat) (D : DataW Unit) : Prop where
  only : Only None' w wr
  own : wr.ownsMap Try.prog 9 (plainElem Try.prog 4) b nn D
  has : ∀ x, Maps.has D (.string x) = true ↔ x ∈ calls (l.take j)
  few : nn ≤ j
  new : w.heap.size ≤ b
end Go.Proofs.Ytajbagdgjbihjaa
