/- An argument that is a slice of flat structs: its cells, their kinds, the bounds of its strings. No program. -/
import Derived.Test.YtfmpidacklhmaaaG1
import Derived.WalkKit
import Derived.ProofKit
import Derived.OpenShut
import Derived.ChangeOld
import Derived.SizedLaws
import Derived.Deep.Slices
import Derived.Deep.Strs
import Derived.Deep.Fields
namespace Go.Proofs.Ytfmpidacklhmaaa
open Go.RowKit Go.WideShapes Go.ChangeShapes
set_option linter.unusedVariables false

theorem list_of {α : Type} (p : Nat → α → Prop) : ∀ n : Nat, (∀ j, j < n → ∃ x, p j x) → ∃ l : List α, l.length = n ∧ ∀ j (hj : j < l.length), p j l[j]
  | 0, _ => ⟨[], rfl, fun j hj => absurd hj (by simp)⟩
  | n + 1, h => by
    obtain ⟨l, hl, hp⟩ := list_of p n fun j hj => h j (by omega)
    obtain ⟨x, hx⟩ := h n (by omega)
    refine ⟨l ++ [x], by simp [hl], fun j hj => ?_⟩
    rcases Nat.lt_or_ge j l.length with h1 | h1
    · rw [List.getElem_append_left h1]; exact hp j h1
    · have : j = l.length := by simp at hj; omega
      subst this
      rw [List.getElem_append_right (Nat.le_refl _)]
      simp only [Nat.sub_self, List.getElem_cons_zero]
      rw [hl]; exact hx

theorem okWide_lies {P : Program} {W : World} {base : Nat} {t e : TypeId} {x : Addr} {len cap : Nat} (ht : P.underlying t = some (.slice e)) (h : Value.okWide P W .any base t (.slice (some x) len cap)) : x.spot = none ∧ x.block < W.heap.size := by
  simp only [Value.okWide, ht, Cell.okWide, Cell.ok, World.has] at h
  obtain ⟨_, _, _, hs, row, cells, hsh, _⟩ := h
  refine ⟨hs, ?_⟩
  rcases Nat.lt_or_ge x.block W.heap.size with h' | h'
  · exact h'
  · simp [World.shape?, Array.getElem?_eq_none h'] at hsh

theorem okWide_slice' {P : Program} {W : World} {base : Nat} {t e : TypeId} {v : Value} (ht : P.underlying t = some (.slice e)) (h : Value.okWide P W .any base t v) : ∃ a len cap, v = .slice a len cap := by
  simp only [Value.okWide, ht, Cell.okWide] at h
  cases v <;> simp only [Cell.ok, ht] at h
  exact ⟨_, _, _, rfl⟩

theorem okWide_int' {P : Program} {W : World} {base : Nat} {t : TypeId} {k : IntKind} {v : Value} (ht : P.underlying t = some (.int k)) (h : Value.okWide P W .any base t v) : ∃ a, v = .int k a := by
  simp only [Value.okWide, ht, Cell.okWide] at h
  cases v <;> simp only [Cell.ok, ht] at h
  rename_i k' n
  obtain ⟨rfl, _⟩ := h
  exact ⟨_, rfl⟩

/-- a row that may be read -/
structure Rd (w : World) (size : Nat) (v : Value) (n : Nat) (xs : List Value) : Prop where
  len : xs.length = n * size
  form : (v = .slice none 0 0 ∧ n = 0) ∨ ∃ ad cap, v = .slice (some ad) n cap ∧ n ≤ cap ∧ cap ≤ maxLen ∧ ∀ j u, xs[j]? = some u → w.cell? (ad.add j) = some u

theorem Vec.rd {w : World} {size n : Nat} {v : Value} {xs : List Value} (h : Vec w size v n xs) : Rd w size v n xs :=
  ⟨h.len, h.form.imp id fun ⟨g, off, cap, a, b, c, d, e, _⟩ => ⟨⟨g, off, none⟩, cap, a, b, c, fun j u hu => by rw [add_mid' (⟨g, off, none⟩) j rfl]; exact e j u hu⟩⟩

section
variable {w w' : World} {size n : Nat} {v : Value} {xs : List Value}
theorem Rd.kept (h : Rd w size v n xs) (hb : xs ≠ [] → ∀ g, v.ownBlock = some g → g < w.heap.size → w'.heap[g]? = w.heap[g]?) : Rd w' size v n xs := by
  refine ⟨h.len, h.form.imp id fun ⟨ad, cap, a, b, c, d⟩ => ⟨ad, cap, a, b, c, fun j u hu => ?_⟩⟩
  have hc := d j u hu
  have hlt := World.block_lt_of_cell? w _ hc
  have e : (ad.add j).block = ad.block := by unfold Addr.add; split <;> rfl
  rw [← hc]
  refine World.cell?_of_block ?_
  rw [e] at hlt ⊢
  exact hb (fun e => by rw [e] at hu; simp at hu) ad.block (by rw [a]; rfl) hlt
theorem Rd.only (h : Rd w size v n xs) {F : Nat → Prop} (ho : Only F w w') (hb : xs ≠ [] → ∀ g, v.ownBlock = some g → g < w.heap.size → ¬ F g) : Rd w' size v n xs :=
  h.kept fun hx g hg hl => ho.block g hl (hb hx g hg hl)
theorem Rd.below (h : Rd w size v n xs) (hb : Below w.heap.size w w') : Rd w' size v n xs := h.kept fun _ g _ hl => hb.block g hl
theorem Rd.at_ (h : Rd w size v n xs) (h0 : 0 < n * size) : ∃ g off cap, v = .slice (some ⟨g, off, none⟩) n cap ∧ g < w.heap.size ∧ ∀ j u, xs[j]? = some u → w.cell? ⟨g, off + j, none⟩ = some u := by
  rcases h.form with ⟨_, rfl⟩ | ⟨⟨g, off, s⟩, cap, a, b, c, d⟩
  · omega
  · have hl : 0 < xs.length := by rw [h.len]; exact h0
    have h1 := d 0 _ (List.getElem?_eq_getElem hl)
    have hs : s = none := by
      cases s with
      | none => rfl
      | some s =>
        simp only [Addr.add, if_true, World.cell?] at h1
        split at h1 <;> simp at h1
    subst hs
    refine ⟨g, off, cap, a, ?_, fun j u hu => ?_⟩
    · have := World.block_lt_of_cell? w _ h1
      simpa [Addr.add] using this
    · have := d j u hu
      rwa [add_mid' (⟨g, off, none⟩) j rfl] at this
theorem Rd.lt (h : Rd w size v n xs) (hx : xs ≠ []) {g : Nat} (hg : v.ownBlock = some g) : g < w.heap.size := by
  have hl : 0 < n * size := by rw [← h.len]; exact List.length_pos_iff.2 hx
  obtain ⟨g', off, cap, rfl, h1, _⟩ := h.at_ hl
  injection hg with hg
  exact hg ▸ h1
theorem Rd.shape (h : Rd w size v n xs) : ∃ a cap, v = .slice a n cap := by
  rcases h.form with ⟨rfl, rfl⟩ | ⟨ad, cap, a, _⟩
  · exact ⟨_, _, rfl⟩
  · exact ⟨_, _, a⟩
end

theorem Rd.shape' {w : World} {size n : Nat} {v : Value} {xs : List Value} (h : Rd w size v n xs) : ∃ a k c, v = .slice a k c := by
  obtain ⟨a, c, e⟩ := h.shape
  exact ⟨a, n, c, e⟩

theorem rd_bools {H : Type} {P : Program} {enc : TypeId × Value → H} {W : World} {spare : Nat → Bool} {held : Bool} {t e : TypeId} {fuel : Nat} {v : Value} {x : DataW H × List MemPlace}
    (ht : P.underlying t = some (.slice e)) (he : P.underlying e = some .bool) (hc : P.cellsOf e = 1) (h : DataW.trod enc P W 0 spare held fuel t [v] = some x) (hw : ∀ n ∈ x.1.weights P t, n ≤ reachBytes) :
    ∃ l : List Bool, Rd W 1 v l.length (l.map Value.bool) ∧ l.length * P.bytesOf e ≤ reachBytes := by
  rcases Go.Deep.open_slice1 ht hc h with ⟨hv, _⟩ | ⟨a, len, cap, m, n, V, D, Pl, hv, _, hl, hm, hmm, hxe, hx⟩
  · simp at hv
    exact ⟨[], ⟨by simp, .inl ⟨hv, rfl⟩⟩, by simp⟩
  · simp at hv
    have hlm : len ≤ m := by rw [hmm]; split <;> omega
    have hww : (len + (m - len)) * P.bytesOf e ≤ reachBytes := by
      rw [hxe] at hw
      refine hw _ ?_
      simp [DataW.weights, ht]
    have key : ∀ j, j < len → ∃ b : Bool, W.cell? (a.add j) = some (.bool b) := by
      intro j hj
      obtain ⟨h1, h2⟩ := hx j (by omega)
      obtain ⟨b, q, _⟩ := DataW.trod_bool he h2
      simp at q
      exact ⟨b, by rw [h1, q]⟩
    obtain ⟨l, hll, hp⟩ := list_of _ len key
    refine ⟨l, ⟨by simp, .inr ⟨a, cap, by rw [hv, hll], by omega, hm, fun j u hu => ?_⟩⟩, Nat.le_trans (Nat.mul_le_mul_right _ (by omega)) hww⟩
    rw [List.getElem?_map] at hu
    cases hj : l[j]? with
    | none => rw [hj] at hu; cases hu
    | some b =>
      rw [hj] at hu
      injection hu with hu
      obtain ⟨h1, rfl⟩ := List.getElem?_eq_some_iff.1 hj
      rw [← hu]; exact hp j h1

theorem open_bools {H : Type} {P : Program} {enc : TypeId × Value → H} {W : World} {base : Nat} {t e : TypeId} {v : Value} {d : DataW H} {ps : List MemPlace}
    (ht : P.underlying t = some (.slice e)) (he : P.underlying e = some .bool) (hc : P.cellsOf e = 1) (hok : Value.okWide P W .any base t v) (hd : DataW.Trod enc P W 0 (fun _ => true) true t v d ps) (hw : ∀ n ∈ d.weights P t, n ≤ reachBytes) :
    ∃ l : List Bool, Rd W 1 v l.length (l.map Value.bool) ∧ l.length * P.bytesOf e ≤ reachBytes := by
  obtain ⟨fuel, hm⟩ := hd
  obtain ⟨a, len, cap, rfl⟩ := okWide_slice' ht hok
  exact rd_bools ht he hc (x := (d, ps)) (by simpa [Value.cells] using hm) hw

/-- a cell's value is of its type's kind -/
structure Suits (P : Program) (W : World) (t : TypeId) (v : Value) : Prop where
  int : ∀ k, P.underlying t = some (.int k) → ∃ n, v = .int k n ∧ (Lit.int k n).wf = true
  string : P.underlying t = some .string → ∃ s : ByteArray, v = .string s ∧ s.size ≤ reachBytes
  bool : P.underlying t = some .bool → ∃ b, v = .bool b
  row : ∀ e, P.underlying t = some (.slice e) → P.underlying e = some .bool → P.cellsOf e = 1 → ∃ l : List Bool, Rd W 1 v l.length (l.map Value.bool) ∧ l.length * P.bytesOf e ≤ reachBytes

theorem weights_all_mem {H : Type} {P : Program} {e : TypeId} : ∀ {ds : List (DataW H)} {d : DataW H}, d ∈ ds → ∀ n ∈ d.weights P e, n ∈ DataW.weightsAll P e ds
  | x :: r, d, hd, n, hn => by
    simp only [DataW.weightsAll, List.mem_append]
    rcases List.mem_cons.1 hd with rfl | hd
    · exact .inl hn
    · exact .inr (weights_all_mem hd n hn)

theorem open_flat {H : Type} {P : Program} {enc : TypeId × Value → H} {W : World} {base : Nat} {t e : TypeId} {fs : Array Field} {v : Value} {d : DataW H} {ps : List MemPlace}
    (ht : P.underlying t = some (.slice e)) (he : P.underlying e = some (.struct fs)) (hone : Go.Deep.oneCellFields P fs = true) (hC : P.cellsOf e = fs.size)
    (hok : Value.okWide P W .any base t v) (hd : DataW.Trod enc P W 0 (fun _ => true) true t v d ps) (hw : ∀ n ∈ d.weights P t, n ≤ reachBytes) :
    ∃ a len cap, v = .slice a len cap ∧ len * P.bytesOf e ≤ reachBytes ∧ (a = none → len = 0 ∧ cap = 0) ∧ (∀ x, a = some x → x.spot = none ∧ x.block < W.heap.size) ∧ len ≤ cap ∧ cap ≤ maxLen ∧
      ∀ j, j < len → ∃ b off, a = some ⟨b, off, none⟩ ∧ ∀ (i : Nat) (f : Field), fs[i]? = some f → ∃ u, W.cell? ⟨b, off + j * fs.size + i, none⟩ = some u ∧ Suits P W f.type u := by
  obtain ⟨fuel, hm⟩ := hd
  obtain ⟨a, len, cap, rfl⟩ := okWide_slice' ht hok
  rcases Go.Deep.open_slice ht hm with ⟨hcs, hx⟩ | ⟨x, l, c, m', n, D, Pl, hcs, hb, hl, hm', hmm, hx, hall⟩
  · simp [Value.cells] at hcs
    obtain ⟨rfl, rfl, rfl⟩ := hcs
    exact ⟨none, 0, 0, rfl, by omega, fun _ => ⟨rfl, rfl⟩, (fun x h => by cases h), Nat.le_refl _, Nat.zero_le _, fun j hj => by omega⟩
  · simp [Value.cells] at hcs
    obtain ⟨rfl, rfl, rfl⟩ := hcs
    obtain ⟨hs, hlt⟩ := okWide_lies ht hok
    obtain ⟨b, off, s⟩ := x
    simp only at hs hlt
    subst hs
    have hlm : len ≤ m' := by rw [hmm]; split <;> omega
    simp only [Prod.mk.injEq] at hx
    obtain ⟨hdx, -⟩ := hx
    have hww : ∀ n ∈ (len + (m' - len)) * P.bytesOf e :: (DataW.weightsAll P e ((List.range len).map D) ++ DataW.weightsAll P e ((List.range (m' - len)).map fun j => D (len + j))), n ≤ reachBytes := by
      rw [hdx] at hw
      simpa [DataW.weights, ht] using hw
    have hsz := hww _ (List.mem_cons_self ..)
    refine ⟨some ⟨b, off, none⟩, len, cap, rfl, Nat.le_trans (Nat.mul_le_mul_right _ (by omega)) hsz, (fun h => by cases h), (fun x h => by injection h with h; subst h; exact ⟨rfl, hlt⟩), hl, hm', fun j hj => ⟨b, off, rfl, fun i f hf => ?_⟩⟩
    obtain ⟨cs, h1, h2⟩ := hall j (by omega)
    rw [hC] at h1
    obtain ⟨ys, n', _, hy, hlen, hyl, hff⟩ := DataW.trod_struct he h2
    obtain ⟨ho, hk⟩ := Go.Deep.hone_of hone i f hf
    have hil : i < fs.size := (Array.getElem?_eq_some_iff.1 hf).1
    obtain ⟨_, hcl, hat⟩ := World.cells?_some h1
    have hcell := hat i hil
    have hil' : i < cs.length := by rw [hcl]; exact hil
    have hg := hff i f hf
    rw [ho, hk] at hg
    have hdrop : (cs.drop i).take 1 = [cs[i]] := by
      rw [List.drop_eq_getElem_cons hil']; rfl
    have hyi : ys[i]? = some (ys[i]'(by omega)) := List.getElem?_eq_getElem (by omega)
    rw [hdrop, hyi] at hg
    have hDj : D j = .agg (ys.map (·.1)) := by simp only [Prod.mk.injEq] at hy; exact hy.1
    have hwj : ∀ n ∈ (ys[i]'(by omega)).1.weights P f.type, n ≤ reachBytes := by
      intro n hn
      refine hww n (List.mem_cons_of_mem _ (List.mem_append_left _ (weights_all_mem (d := D j) (List.mem_map.2 ⟨j, List.mem_range.2 hj, rfl⟩) n ?_)))
      rw [hDj]
      have : n ∈ DataW.weightsEach P (fs.toList.map (·.type)) (ys.map (·.1)) := by
        refine DataW.weights_mem_each (j := i) (t := f.type) (d := (ys[i]'(by omega)).1) ?_ ?_ n hn
        · rw [List.getElem?_map, Array.getElem?_toList, hf]; rfl
        · rw [List.getElem?_map, hyi]; rfl
      simpa [DataW.weights, he] using this
    refine ⟨cs[i], ?_, ?_, ?_, ?_, ?_⟩
    · rw [List.getElem?_eq_getElem hil'] at hcell
      rw [← hcell]
      congr 1
      rw [Go.Deep.add_add]
      have aux : ∀ q : Nat, (⟨b, off, none⟩ : Addr).add q = ⟨b, off + q, none⟩ := fun q => by cases q <;> simp [Addr.add]
      rw [aux, Nat.add_assoc]
    · intro k hu
      obtain ⟨i0, q0, _, h4⟩ := DataW.trod_int hu hg
      simp at q0
      exact ⟨i0, q0, h4⟩
    · intro hu
      obtain ⟨s0, q0, q1, _⟩ := DataW.trod_string hu hg
      simp at q0
      refine ⟨s0, q0, ?_⟩
      have := hwj s0.data.toList.length (by rw [q1]; simp [DataW.weights])
      simpa using this
    · intro hu
      obtain ⟨b0, q0, _⟩ := DataW.trod_bool hu hg
      simp at q0
      exact ⟨b0, q0⟩
    · intro e' hu hb hce
      exact rd_bools hu hb hce hg hwj

end Go.Proofs.Ytfmpidacklhmaaa
