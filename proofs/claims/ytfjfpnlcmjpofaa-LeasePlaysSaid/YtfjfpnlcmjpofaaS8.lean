/- slices.SortFunc of leases. -/
import Derived.Test.YtfjfpnlcmjpofaaS7
import Derived.Shelf.SlSortCmp.NoneTotal
namespace Go.Proofs.Ytfjfpnlcmjpofaa
open Go.RowKit Go.Maps Go.Sort Go.Shelf
set_option linter.unusedVariables false

theorem flat_get (l : List Ls) (t : Nat) (h : t < l.length * 4) : (l.flatMap Ls.row)[t]? = some ((Ls.row l.toArray[t / 4]!)[t % 4]!) := by
  have hq : t / 4 < l.length := by omega
  have hr : t % 4 < (Ls.row l[t / 4]).length := by rw [Ls.row_length]; omega
  have h1 := flat_at Ls.row 4 l (t / 4) (fun y _ => rfl) hq (t % 4) _ (List.getElem?_eq_getElem hr)
  have e : t / 4 * 4 + t % 4 = t := by omega
  rw [e] at h1
  rw [h1]
  congr 1
  have e2 : l.toArray[t / 4]! = l[t / 4] := by
    rw [getElem!_pos l.toArray (t / 4) (by simpa using hq)]
    simp
  rw [e2]
  exact (getElem!_pos (l[t / 4].row) (t % 4) hr).symm
theorem flat_list (d : Array Ls) : (flatK Ls.row 4 d).toList = d.toList.flatMap Ls.row := by
  apply List.ext_getElem?
  intro t
  by_cases h : t < d.size * 4
  · have h1 := flat_get d.toList t (by simpa using h)
    rw [h1]
    have h2 : t < (flatK Ls.row 4 d).size := by rw [size_flatK]; exact h
    rw [List.getElem?_eq_getElem (by simpa using h2)]
    congr 1
    have := get_flatK Ls.row 4 d t h
    rw [getElem!_pos _ t h2] at this
    rw [Array.getElem_toList, this]
  · rw [List.getElem?_eq_none (by rw [Array.length_toList, size_flatK]; omega), List.getElem?_eq_none (by rw [flat_length Ls.row 4 _ fun x _ => rfl, Array.length_toList]; omega)]
theorem holds_vec {w : World} {g off n c : Nat} {l : List Ls} (h : Vec w 4 (.slice (some ⟨g, off, none⟩) n c) n (l.flatMap Ls.row)) : HoldsK Ls.row 4 w g off l.toArray := by
  intro j hj
  have hlen := h.len
  rw [flat_length Ls.row 4 l fun x _ => rfl] at hlen
  rw [size_flatK] at hj
  have hj' : j < l.length * 4 := by simpa using hj
  obtain ⟨g', off', c', e, h1, _, _, h4, h5⟩ := h.at_ (by omega)
  injection e with e
  injection e with e
  injection e with e e'
  subst e e'
  refine ⟨h4 j _ ?_, (h5 j (by have : n * 4 ≤ c' * 4 := Nat.mul_le_mul_right _ h1; omega)).2⟩
  rw [flat_get l j hj', get_flatK _ _ _ _ (by simpa using hj')]
  rfl
theorem vec_sorted {w : World} {g off n c m : Nat} {l : List Ls} {d' : Array Ls} {os : Array Obj} (h : Vec w 4 (.slice (some ⟨g, off, none⟩) n c) n (l.flatMap Ls.row)) (hd : d'.size = l.length) :
    Vec (sortWorldK Ls.row 4 w g off m d' os) 4 (.slice (some ⟨g, off, none⟩) n c) n (d'.toList.flatMap Ls.row) ∧ Only (fun k => k = g) w (sortWorldK Ls.row 4 w g off m d' os) := by
  have hH := holds_vec h
  have hlen := h.len
  rw [flat_length Ls.row 4 l fun x _ => rfl] at hlen
  have hg : g < w.heap.size := h.lt rfl
  have hsz : (flatK Ls.row 4 d').size = (flatK Ls.row 4 l.toArray).size := by rw [size_flatK, size_flatK, hd]; simp
  have hP := holds_putRow id (Sort.ahead w m) g off (flatK Ls.row 4 l.toArray) (flatK Ls.row 4 d') (holds_ahead id w m g off _ hH) hsz
  have hgl : g < (putRow id (Sort.ahead w m) g off (flatK Ls.row 4 d')).heap.size := by rw [size_putRow]; exact hg
  rcases h.form with ⟨e, _⟩ | ⟨g', off', c', e, h1, h2, _, h4, h5⟩
  · cases e
  · injection e with e _ e3
    injection e with e
    injection e with e e'
    subst e e' e3
    have hcell : ∀ a : Addr, a.block = g → (sortWorldK Ls.row 4 w g off m d' os).cell? a = (putRow id (Sort.ahead w m) g off (flatK Ls.row 4 d')).cell? a := fun a ha => cell?_grow _ _ _ (by rw [ha]; exact hgl)
    have hfroz : ∀ a : Addr, a.block = g → (sortWorldK Ls.row 4 w g off m d' os).frozen? a = w.frozen? a := fun a ha => by
      show (grow (putRow id (Sort.ahead w m) g off (flatK Ls.row 4 d')) os).frozen? a = _
      rw [frozen?_grow _ _ _ (by rw [ha]; exact hgl), frozen?_putRow]
      rfl
    refine ⟨⟨by rw [flat_length Ls.row 4 _ fun x _ => rfl, Array.length_toList, hd]; exact hlen, .inr ⟨g, off, c, rfl, h1, h2, ?_, fun j u hu => ?_, fun j hj => ?_⟩⟩, ?_⟩
    · show g < (grow (putRow id (Sort.ahead w m) g off (flatK Ls.row 4 d')) os).heap.size
      rw [size_grow]
      omega
    · have hj := (List.getElem?_eq_some_iff.1 hu).1
      rw [← flat_list, Array.length_toList] at hj
      rw [hcell _ rfl, (hP j hj).1]
      rw [← flat_list, List.getElem?_eq_getElem (by simpa using hj)] at hu
      rw [getElem!_pos _ j hj]
      simpa using hu
    · rw [hfroz _ rfl]
      refine ⟨?_, (h5 j hj).2⟩
      rw [hcell _ rfl]
      by_cases hjn : j < (flatK Ls.row 4 d').size
      · rw [(hP j hjn).1]; rfl
      · rw [cell?_putRow_other _ _ _ _ _ _ (Or.inr (Or.inr (by show off + _ ≤ off + j; omega)))]
        exact (h5 j hj).1
    · refine ⟨rfl, rfl, rfl, ?_, fun k hk hn => ?_⟩
      · show w.heap.size ≤ (grow (putRow id (Sort.ahead w m) g off (flatK Ls.row 4 d')) os).heap.size
        rw [size_grow, size_putRow]
        show w.heap.size ≤ w.heap.size + _
        omega
      · show (grow (putRow id (Sort.ahead w m) g off (flatK Ls.row 4 d')) os).heap[k]? = _
        rw [heap_grow_old _ _ (by rw [size_putRow]; exact hk)]
        show (w.heap.modify g _)[k]? = _
        rw [Array.getElem?_modify, if_neg (fun e => hn e.symm)]
/-- in order -/
def Up (l : List Ls) : Prop := l.Pairwise fun a b => ¬ Bf b a
theorem up_of {d : Array Ls} (h : SortedIn (ltOf bef) 0 d.size d) : Up d.toList := by
  unfold Up
  rw [List.pairwise_iff_getElem]
  intro i j hi hj hij hb
  rw [Array.length_toList] at hi hj
  have := h i j (Nat.zero_le _) hij hj
  rw [getElem!_pos d j hj, getElem!_pos d i hi] at this
  rw [Array.getElem_toList, Array.getElem_toList, ← ltOf_bef] at hb
  rw [hb] at this
  cases this
theorem sort_any {w : World} {v : Value} {l : List Ls} (h : Vec w 4 v l.length (l.flatMap Ls.row)) (hl : l.length < 4611686018427387904) :
    Calls Try.prog 30 #[v, .func (.func 31) #[] #[]] w fun e w' => e = .returned (.tuple #[]) ∧ ∃ l' : List Ls, l'.Perm l ∧ Up l' ∧ Vec w' 4 v l.length (l'.flatMap Ls.row) ∧ Only (fun k => v.ownBlock = some k) w w' := by
  rcases h.form with ⟨rfl, h0⟩ | ⟨g, off, c, rfl, _⟩
  · have hc := AnyF.slices_SortFunc_none Try.sortL none 0 (.func (.func 31) #[] #[]) w
    change Calls Try.prog 30 _ _ _ at hc
    refine hc.mono fun e w' ⟨h1, h2⟩ => ?_
    subst h2
    have hl0 : l = [] := List.eq_nil_of_length_eq_zero h0
    exact ⟨h1, l, List.Perm.refl _, by rw [hl0]; exact List.Pairwise.nil, h, Only.refl _ _⟩
  · have eg : ∀ args w, (callFunc 31 args).run Try.prog w = .ok (.enter 31 args) w := enters_of Try.func31 (by kernel_rfl) rfl
    have hc := AnyQ.slices_SortFunc Try.sortL 4 isAgg57 sizeOf57 Ls.row (fun _ => rfl) (fun x v hv => Ls.row_one x v hv) bef swo_bef 31 #[] g off c l.toArray w eg (cmpLays g off l.toArray.size w) (holds_vec h) (h.lt rfl) (by simpa using hl)
    change Calls Try.prog 30 _ _ _ at hc
    rw [show l.toArray.size = l.length by simp] at hc
    refine hc.mono fun e w' ⟨h1, d', m, os, hp, hs, hw⟩ => ?_
    have hd : d'.size = l.length := by rw [hp.1]; simp
    subst hw
    obtain ⟨k1, k2⟩ := vec_sorted (m := m) (os := os) h hd
    refine ⟨h1, d'.toList, ?_, up_of (by rw [hd]; exact hs), k1, k2.mono fun k _ e => by rw [e]; rfl⟩
    have := hp.2.2
    have e1 : d'.extract 0 l.length = d' := by rw [← hd]; simp
    have e2 : l.toArray.extract 0 l.length = l.toArray := by simp
    rw [e1, e2] at this
    simpa using this
end Go.Proofs.Ytfjfpnlcmjpofaa
