/- A slice of numbers that came in, as the laws' walks want it (RI). -/
import Derived.Test.YtochcilkpjhmiaaL0
import Derived.ProofKit
import Derived.OpenShut
import Derived.ChangeOld
namespace Go.Proofs.Ytochcilkpjhmiaa
open Go.RowKit Go.WideShapes

/-- a row of numbers that came in -/
def IsRow (k : IntKind) (w : World) (a : Option Addr) (len cap : Nat) (zs : List Int) : Prop :=
  (a = none ∧ len = 0 ∧ cap = 0 ∧ zs = []) ∨
  ∃ x, a = some x ∧ len ≤ cap ∧ cap ≤ maxLen ∧ zs.length = cap ∧ (∀ i, i < zs.length → w.cell? (x.add i) = some (.int k (zs.getD i 0))) ∧ ∀ n ∈ zs, (Lit.int k n).wf = true

theorem okWide_has {P : Program} {W : World} {base : Nat} {t e : TypeId} {x : Addr} {len cap : Nat} (ht : P.underlying t = some (.slice e)) (h : Value.okWide P W .any base t (.slice (some x) len cap)) : x.spot = none ∧ x.block < W.heap.size := by
  simp only [Value.okWide, ht, Cell.okWide, Cell.ok, World.has] at h
  obtain ⟨_, _, _, hs, row, cells, hsh, _⟩ := h
  refine ⟨hs, ?_⟩
  rcases Nat.lt_or_ge x.block W.heap.size with h' | h'
  · exact h'
  · simp [World.shape?, Array.getElem?_eq_none h'] at hsh

theorem ri_row {W : World} {base : Nat} {a : Option Addr} {len cap : Nat} {zs : List Int} (hok : Value.okWide Try.prog W .any base 25 (.slice a len cap)) (h : IsRow .i64 W a len cap zs) : RI W a len cap (zs.take len) := by
  rcases h with ⟨rfl, rfl, rfl, rfl⟩ | ⟨x, rfl, h1, h2, h3, h4, _⟩
  · exact ⟨rfl, Nat.le_refl _, Nat.zero_le _, fun _ => rfl, fun a ha => by cases ha⟩
  · obtain ⟨hs, hb⟩ := okWide_has Try.underlying25 hok
    refine ⟨by simp; omega, h1, h2, (by intro h; cases h), fun a ha => ?_⟩
    injection ha with ha
    subst ha
    refine ⟨hs, hb, fun j hj => ?_⟩
    have hj' : j < zs.length := by simp at hj; omega
    have hjl : j < len := by simp at hj; omega
    have := h4 j hj'
    obtain ⟨b, off, s⟩ := x
    simp only at hs
    subst hs
    have e : nth (zs.take len) j = zs.getD j 0 := by simp [nth, List.getD, hjl]
    rw [e, ← this]
    cases j <;> simp [Addr.add]

theorem cap_row {W : World} {a : Option Addr} {len cap : Nat} {zs : List Int} (h : IsRow .i64 W a len cap zs) : a = none → cap = 0 := by
  rintro rfl
  rcases h with ⟨_, _, h, _⟩ | ⟨x, h, _⟩
  · exact h
  · cases h

theorem open_row_len {H : Type} {enc : TypeId × Value → H} {W : World} {a : Option Addr} {len cap fuel : Nat} {d : DataW H} {p : List MemPlace} (hf : DataW.trod enc Try.prog W 0 (fun _ => true) true fuel 25 (Value.slice a len cap).cells.toList = some (d, p)) :
    (d = .nil ∧ cap = 0) ∨ ∃ es sp, d = .slice es sp ∧ es.length + sp.length = cap := by
  rcases ChangeShapes.open_ints Try.underlying25 Try.underlying3 (by kernel_rfl) hf with ⟨hcs, hx⟩ | ⟨x, l, c, zs, hcs, _, hl, hm, hz, hx, hcell, hwz⟩
  · simp [Value.cells] at hcs
    obtain ⟨rfl, rfl, rfl⟩ := hcs
    injection hx with hd
    exact .inl ⟨hd, rfl⟩
  · simp [Value.cells] at hcs
    obtain ⟨rfl, rfl, rfl⟩ := hcs
    injection hx with hd
    refine .inr ⟨_, _, hd, ?_⟩
    simp [ChangeShapes.lits] at *
    omega

theorem reach_row {H : Type} {ts : List TypeId} {ds : List (DataW H)} {d : DataW H} {cap : Nat} (h : (DataW.weightsEach Try.prog ts ds).all (· ≤ reachBytes) = true) (j : Nat) (ht : ts[j]? = some 25) (hd : ds[j]? = some d)
    (hor : (d = .nil ∧ cap = 0) ∨ ∃ es sp, d = .slice es sp ∧ es.length + sp.length = cap) : cap * 8 ≤ 140737488351232 := by
  rcases hor with ⟨_, rfl⟩ | ⟨es, sp, rfl, rfl⟩
  · omega
  · have h1 := sized_slice h ht hd Try.underlying25
    have h2 : Try.prog.bytesOf 3 = 8 := by kernel_rfl
    rw [h2] at h1
    exact h1

end Go.Proofs.Ytochcilkpjhmiaa
