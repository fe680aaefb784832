/- An argument that is a slice of structs of structs: its cells, leaf by leaf. No program. -/
import Derived.Test.YtajbagdgjbihjaaK1
namespace Go.Proofs.Ytajbagdgjbihjaa
open Go.RowKit Go.WideShapes
set_option linter.unusedVariables false

/-- at the cell o of a t lies a u of one cell -/
inductive Leaf (P : Program) : TypeId → Nat → TypeId → Prop
  | here {t : TypeId} (h : P.cellsOf t = 1) : Leaf P t 0 t
  | field {t u : TypeId} {fs : Array Field} {i o : Nat} {f : Field} (ht : P.underlying t = some (.struct fs)) (hf : fs[i]? = some f) (hin : f.offset + P.cellsOf f.type ≤ P.cellsOf t) (ho : o < P.cellsOf f.type) (h : Leaf P f.type o u) : Leaf P t (f.offset + o) u
theorem leaf_at {H : Type} {P : Program} {enc : TypeId × Value → H} {W : World} {b0 : Nat} {sp : Nat → Bool} {hd : Bool} {t u : TypeId} {o : Nat} (hL : Leaf P t o u) : ∀ (fuel : Nat) (cs : List Value) (x : DataW H × List MemPlace), cs.length = P.cellsOf t → DataW.trod enc P W b0 sp hd fuel t cs = some x →
    ∃ (fuel' : Nat) (v : Value) (y : DataW H × List MemPlace), cs[o]? = some v ∧ DataW.trod enc P W b0 sp hd fuel' u [v] = some y ∧ ∀ n ∈ y.1.weights P u, n ∈ x.1.weights P t := by
  induction hL with
  | here h =>
    intro fuel cs x hl hx
    rw [h] at hl
    match cs, hl with
    | [v], _ => exact ⟨fuel, v, x, rfl, hx, fun n hn => hn⟩
  | @field t u fs i o f ht hf hin ho h ih =>
    intro fuel cs x hl hx
    obtain ⟨xs, n', _, hxe, hlen, hxl, hff⟩ := DataW.trod_struct ht hx
    have hil : i < fs.size := (Array.getElem?_eq_some_iff.1 hf).1
    have hxi : xs[i]? = some (xs[i]'(by omega)) := List.getElem?_eq_getElem (by omega)
    have hg := hff i f hf
    rw [hxi] at hg
    have hlen2 : ((cs.drop f.offset).take (P.cellsOf f.type)).length = P.cellsOf f.type := by
      rw [List.length_take, List.length_drop]; omega
    obtain ⟨fuel', v, y, h1, h2, h3⟩ := ih n' _ _ hlen2 hg
    refine ⟨fuel', v, y, ?_, h2, fun n hn => ?_⟩
    · rw [List.getElem?_take_of_lt ho, List.getElem?_drop] at h1
      exact h1
    · rw [hxe]
      have := h3 n hn
      have h4 : n ∈ DataW.weightsEach P (fs.toList.map (·.type)) (xs.map (·.1)) := by
        refine DataW.weights_mem_each (j := i) (t := f.type) (d := (xs[i]'(by omega)).1) ?_ ?_ n this
        · rw [List.getElem?_map, Array.getElem?_toList, hf]; rfl
        · rw [List.getElem?_map, hxi]; rfl
      simpa [DataW.weights, ht] using h4
/-- a cell's value is of its type's kind -/
structure SuitsS (P : Program) (t : TypeId) (v : Value) : Prop where
  int : ∀ k, P.underlying t = some (.int k) → ∃ n, v = .int k n ∧ (Lit.int k n).wf = true
  string : P.underlying t = some .string → ∃ s : ByteArray, v = .string s ∧ s.size ≤ reachBytes
  bool : P.underlying t = some .bool → ∃ b, v = .bool b

theorem open_nest {H : Type} {P : Program} {enc : TypeId × Value → H} {W : World} {base : Nat} {t e : TypeId} {size : Nat} {v : Value} {d : DataW H} {ps : List MemPlace}
    (ht : P.underlying t = some (.slice e)) (hC : P.cellsOf e = size)
    (hok : Value.okWide P W .any base t v) (hd : DataW.Trod enc P W 0 (fun _ => true) true t v d ps) (hw : ∀ n ∈ d.weights P t, n ≤ reachBytes) :
    ∃ a len cap, v = .slice a len cap ∧ len * P.bytesOf e ≤ reachBytes ∧ (a = none → len = 0 ∧ cap = 0) ∧ (∀ x, a = some x → x.spot = none ∧ x.block < W.heap.size) ∧ len ≤ cap ∧ cap ≤ maxLen ∧
      ∀ j, j < len → ∃ b off, a = some ⟨b, off, none⟩ ∧ ∀ (o : Nat) (u : TypeId), o < size → Leaf P e o u → ∃ z, W.cell? ⟨b, off + j * size + o, none⟩ = some z ∧ SuitsS P u z := by
  obtain ⟨fuel, hm⟩ := hd
  obtain ⟨a, len, cap, rfl⟩ := okWide_slice' ht hok
  rcases Go.Deep.open_slice ht hm with ⟨hcs, hx⟩ | ⟨x, l, c, m', n, D, Pl, hcs, hb, hl, hm', hmm, hx, hall⟩
  · simp [Value.cells] at hcs
    obtain ⟨rfl, rfl, rfl⟩ := hcs
    exact ⟨none, 0, 0, rfl, by omega, fun _ => ⟨rfl, rfl⟩, (fun x h => by cases h), Nat.le_refl _, Nat.zero_le _, fun j hj => by omega⟩
  · simp [Value.cells] at hcs
    obtain ⟨rfl, rfl, rfl⟩ := hcs
    obtain ⟨hs, hlt⟩ := okWide_lies ht hok
    obtain ⟨b, off, s⟩ := x
    simp only at hs hlt
    subst hs
    have hlm : len ≤ m' := by rw [hmm]; split <;> omega
    simp only [Prod.mk.injEq] at hx
    obtain ⟨hdx, -⟩ := hx
    have hww : ∀ n ∈ (len + (m' - len)) * P.bytesOf e :: (DataW.weightsAll P e ((List.range len).map D) ++ DataW.weightsAll P e ((List.range (m' - len)).map fun j => D (len + j))), n ≤ reachBytes := by
      rw [hdx] at hw
      simpa [DataW.weights, ht] using hw
    have hsz := hww _ (List.mem_cons_self ..)
    refine ⟨some ⟨b, off, none⟩, len, cap, rfl, Nat.le_trans (Nat.mul_le_mul_right _ (by omega)) hsz, (fun h => by cases h), (fun x h => by injection h with h; subst h; exact ⟨rfl, hlt⟩), hl, hm', fun j hj => ⟨b, off, rfl, fun o u ho hL => ?_⟩⟩
    obtain ⟨cs, h1, h2⟩ := hall j (by omega)
    obtain ⟨_, hcl, hat⟩ := World.cells?_some h1
    rw [hC] at hcl hat
    obtain ⟨fuel', z, y, hz, hy, hwy⟩ := leaf_at hL _ cs _ (by rw [hcl, hC]) h2
    have hcell := hat o ho
    rw [hz] at hcell
    have hwj : ∀ n ∈ y.1.weights P u, n ≤ reachBytes := fun n hn =>
      hww n (List.mem_cons_of_mem _ (List.mem_append_left _ (weights_all_mem (d := D j) (List.mem_map.2 ⟨j, List.mem_range.2 hj, rfl⟩) n (hwy n hn))))
    refine ⟨z, ?_, ?_, ?_, ?_⟩
    · rw [← hcell]
      congr 1
      rw [Go.Deep.add_add]
      have aux : ∀ q : Nat, (⟨b, off, none⟩ : Addr).add q = ⟨b, off + q, none⟩ := fun q => by cases q <;> simp [Addr.add]
      rw [aux, Nat.add_assoc]
    · intro k hu
      obtain ⟨i0, q0, _, h4⟩ := DataW.trod_int hu hy
      simp at q0
      exact ⟨i0, q0, h4⟩
    · intro hu
      obtain ⟨s0, q0, q1, _⟩ := DataW.trod_string hu hy
      simp at q0
      refine ⟨s0, q0, ?_⟩
      have := hwj s0.data.toList.length (by rw [q1]; simp [DataW.weights])
      simpa using this
    · intro hu
      obtain ⟨b0, q0, _⟩ := DataW.trod_bool hu hy
      simp at q0
      exact ⟨b0, q0⟩
end Go.Proofs.Ytajbagdgjbihjaa
